/- Printed by a program of mine (bgen.py): plain functions, and the walks that show that the code comes to what they answer. -/
import Derived.Test.YtoomjemboekooaaDoorRows
import Derived.Test.YtoomjemboekooaaDoorBv40
import Derived.Test.YtoomjemboekooaaDoorBv35
import Derived.Test.YtoomjemboekooaaDoorBv51
import Derived.Test.YtoomjemboekooaaDoorBv30
import Derived.Test.YtoomjemboekooaaDoorShelf
import Derived.Test.YtoomjemboekooaaDoorBv36
namespace Go.Proofs.YtoomjemboekooaaDoorBv
open Go
set_option linter.unusedVariables false
set_option linter.unusedSimpArgs false
set_option maxRecDepth 100000
theorem hmix : Tryd.prog.follows .mixedOrders = true := by kernel_rfl
structure TAttr where
  Name : (List UInt8)
  Value : (List UInt8)
def e_TAttr (x : TAttr) : List Cel := [.str x.Name, .str x.Value]
structure TNode where
  Kind : Int
  Name : (List UInt8)
  Attrs : (List TAttr)
  Text : (List UInt8)
  Parent : Int
  Kids : (List Int)
def e_TNode (x : TNode) : List Cel := [cI x.Kind, .str x.Name, .ro false 2 (x.Attrs.map e_TAttr), .str x.Text, cI x.Parent, .ro false 1 (x.Kids.map eI)]
structure TDoc where
  Nodes : (List TNode)
  Quirks : Bool
def e_TDoc (x : TDoc) : List Cel := [.ro false 6 (x.Nodes.map e_TNode), cB x.Quirks]
structure TListener where
  ID : Int
  Node : Int
  f_Type : (List UInt8)
  Capture : Bool
  Once : Bool
  Stops : Bool
  StopsAll : Bool
  Prevents : Bool
def e_TListener (x : TListener) : List Cel := [cI x.ID, cI x.Node, .str x.f_Type, cB x.Capture, cB x.Once, cB x.Stops, cB x.StopsAll, cB x.Prevents]
structure TEvent where
  f_Type : (List UInt8)
  Target : Int
  X : Int
  Y : Int
  Key : (List UInt8)
  Bubbles : Bool
  Cancels : Bool
def e_TEvent (x : TEvent) : List Cel := [.str x.f_Type, cI x.Target, cI x.X, cI x.Y, .str x.Key, cB x.Bubbles, cB x.Cancels]
structure THeard where
  Listener : Int
  Node : Int
  Phase : Int
def e_THeard (x : THeard) : List Cel := [cI x.Listener, cI x.Node, cI x.Phase]
structure Tstep where
  f_node : Int
  f_phase : Int
  f_down : Bool
def e_Tstep (x : Tstep) : List Cel := [cI x.f_node, cI x.f_phase, cB x.f_down]
structure Tsending where
  f_l : (List TListener)
  f_e : TEvent
  f_heard : (List THeard)
  f_gone : (List (Int × Int))
  f_stops : Bool
  f_all : Bool
  f_no : Bool
def g3_c : List Cel := [.val (.int .u8 240), .val (.int .u8 240), .val (.int .u8 240), .val (.int .u8 240), .val (.int .u8 240), .val (.int .u8 240), .val (.int .u8 240), .val (.int .u8 240), .val (.int .u8 240), .val (.int .u8 240), .val (.int .u8 240), .val (.int .u8 240), .val (.int .u8 240), .val (.int .u8 240), .val (.int .u8 240), .val (.int .u8 240), .val (.int .u8 240), .val (.int .u8 240), .val (.int .u8 240), .val (.int .u8 240), .val (.int .u8 240), .val (.int .u8 240), .val (.int .u8 240), .val (.int .u8 240), .val (.int .u8 240), .val (.int .u8 240), .val (.int .u8 240), .val (.int .u8 240), .val (.int .u8 240), .val (.int .u8 240), .val (.int .u8 240), .val (.int .u8 240), .val (.int .u8 240), .val (.int .u8 240), .val (.int .u8 240), .val (.int .u8 240), .val (.int .u8 240), .val (.int .u8 240), .val (.int .u8 240), .val (.int .u8 240), .val (.int .u8 240), .val (.int .u8 240), .val (.int .u8 240), .val (.int .u8 240), .val (.int .u8 240), .val (.int .u8 240), .val (.int .u8 240), .val (.int .u8 240), .val (.int .u8 240), .val (.int .u8 240), .val (.int .u8 240), .val (.int .u8 240), .val (.int .u8 240), .val (.int .u8 240), .val (.int .u8 240), .val (.int .u8 240), .val (.int .u8 240), .val (.int .u8 240), .val (.int .u8 240), .val (.int .u8 240), .val (.int .u8 240), .val (.int .u8 240), .val (.int .u8 240), .val (.int .u8 240), .val (.int .u8 240), .val (.int .u8 240), .val (.int .u8 240), .val (.int .u8 240), .val (.int .u8 240), .val (.int .u8 240), .val (.int .u8 240), .val (.int .u8 240), .val (.int .u8 240), .val (.int .u8 240), .val (.int .u8 240), .val (.int .u8 240), .val (.int .u8 240), .val (.int .u8 240), .val (.int .u8 240), .val (.int .u8 240), .val (.int .u8 240), .val (.int .u8 240), .val (.int .u8 240), .val (.int .u8 240), .val (.int .u8 240), .val (.int .u8 240), .val (.int .u8 240), .val (.int .u8 240), .val (.int .u8 240), .val (.int .u8 240), .val (.int .u8 240), .val (.int .u8 240), .val (.int .u8 240), .val (.int .u8 240), .val (.int .u8 240), .val (.int .u8 240), .val (.int .u8 240), .val (.int .u8 240), .val (.int .u8 240), .val (.int .u8 240), .val (.int .u8 240), .val (.int .u8 240), .val (.int .u8 240), .val (.int .u8 240), .val (.int .u8 240), .val (.int .u8 240), .val (.int .u8 240), .val (.int .u8 240), .val (.int .u8 240), .val (.int .u8 240), .val (.int .u8 240), .val (.int .u8 240), .val (.int .u8 240), .val (.int .u8 240), .val (.int .u8 240), .val (.int .u8 240), .val (.int .u8 240), .val (.int .u8 240), .val (.int .u8 240), .val (.int .u8 240), .val (.int .u8 240), .val (.int .u8 240), .val (.int .u8 240), .val (.int .u8 240), .val (.int .u8 240), .val (.int .u8 240), .val (.int .u8 240), .val (.int .u8 240), .val (.int .u8 241), .val (.int .u8 241), .val (.int .u8 241), .val (.int .u8 241), .val (.int .u8 241), .val (.int .u8 241), .val (.int .u8 241), .val (.int .u8 241), .val (.int .u8 241), .val (.int .u8 241), .val (.int .u8 241), .val (.int .u8 241), .val (.int .u8 241), .val (.int .u8 241), .val (.int .u8 241), .val (.int .u8 241), .val (.int .u8 241), .val (.int .u8 241), .val (.int .u8 241), .val (.int .u8 241), .val (.int .u8 241), .val (.int .u8 241), .val (.int .u8 241), .val (.int .u8 241), .val (.int .u8 241), .val (.int .u8 241), .val (.int .u8 241), .val (.int .u8 241), .val (.int .u8 241), .val (.int .u8 241), .val (.int .u8 241), .val (.int .u8 241), .val (.int .u8 241), .val (.int .u8 241), .val (.int .u8 241), .val (.int .u8 241), .val (.int .u8 241), .val (.int .u8 241), .val (.int .u8 241), .val (.int .u8 241), .val (.int .u8 241), .val (.int .u8 241), .val (.int .u8 241), .val (.int .u8 241), .val (.int .u8 241), .val (.int .u8 241), .val (.int .u8 241), .val (.int .u8 241), .val (.int .u8 241), .val (.int .u8 241), .val (.int .u8 241), .val (.int .u8 241), .val (.int .u8 241), .val (.int .u8 241), .val (.int .u8 241), .val (.int .u8 241), .val (.int .u8 241), .val (.int .u8 241), .val (.int .u8 241), .val (.int .u8 241), .val (.int .u8 241), .val (.int .u8 241), .val (.int .u8 241), .val (.int .u8 241), .val (.int .u8 241), .val (.int .u8 241), .val (.int .u8 2), .val (.int .u8 2), .val (.int .u8 2), .val (.int .u8 2), .val (.int .u8 2), .val (.int .u8 2), .val (.int .u8 2), .val (.int .u8 2), .val (.int .u8 2), .val (.int .u8 2), .val (.int .u8 2), .val (.int .u8 2), .val (.int .u8 2), .val (.int .u8 2), .val (.int .u8 2), .val (.int .u8 2), .val (.int .u8 2), .val (.int .u8 2), .val (.int .u8 2), .val (.int .u8 2), .val (.int .u8 2), .val (.int .u8 2), .val (.int .u8 2), .val (.int .u8 2), .val (.int .u8 2), .val (.int .u8 2), .val (.int .u8 2), .val (.int .u8 2), .val (.int .u8 2), .val (.int .u8 2), .val (.int .u8 19), .val (.int .u8 3), .val (.int .u8 3), .val (.int .u8 3), .val (.int .u8 3), .val (.int .u8 3), .val (.int .u8 3), .val (.int .u8 3), .val (.int .u8 3), .val (.int .u8 3), .val (.int .u8 3), .val (.int .u8 3), .val (.int .u8 3), .val (.int .u8 35), .val (.int .u8 3), .val (.int .u8 3), .val (.int .u8 52), .val (.int .u8 4), .val (.int .u8 4), .val (.int .u8 4), .val (.int .u8 68), .val (.int .u8 241), .val (.int .u8 241), .val (.int .u8 241), .val (.int .u8 241), .val (.int .u8 241), .val (.int .u8 241), .val (.int .u8 241), .val (.int .u8 241), .val (.int .u8 241), .val (.int .u8 241), .val (.int .u8 241)]
def g4_c : List Cel := [.val (.int .u8 128), .val (.int .u8 191), .val (.int .u8 160), .val (.int .u8 191), .val (.int .u8 128), .val (.int .u8 159), .val (.int .u8 144), .val (.int .u8 191), .val (.int .u8 128), .val (.int .u8 143), .val (.int .u8 0), .val (.int .u8 0), .val (.int .u8 0), .val (.int .u8 0), .val (.int .u8 0), .val (.int .u8 0), .val (.int .u8 0), .val (.int .u8 0), .val (.int .u8 0), .val (.int .u8 0), .val (.int .u8 0), .val (.int .u8 0), .val (.int .u8 0), .val (.int .u8 0), .val (.int .u8 0), .val (.int .u8 0), .val (.int .u8 0), .val (.int .u8 0), .val (.int .u8 0), .val (.int .u8 0), .val (.int .u8 0), .val (.int .u8 0)]
/-- what the listed package variables hold -/
def GG (mL : Int) : Glob := fun g => if g = 2 then [.val (.int .i64 mL)] else if g = 3 then g3_c else if g = 4 then g4_c else []
def a48 : AFunc := ⟨1, [(.tmp 2)], (.seq (.region [⟨(some 2), (.mov (.const (.c (.val (.bool false))))), none⟩])
 (.seq (.region [⟨(some 3), (.mov (.tmp 0)), none⟩, ⟨(some 4), (.bin .eql (.tmp 3) (.const (.c (.val (.int .i64 1))))), none⟩, ⟨(some 5), (.mov (.tmp 4)), none⟩, ⟨(some 6), (.mov (.tmp 0)), (some (5, false))⟩, ⟨(some 7), (.bin .eql (.tmp 6) (.const (.c (.val (.int .i64 2))))), (some (5, false))⟩, ⟨(some 8), (.pick (.tmp 5) (.const (.c (.val (.bool true)))) (.tmp 7)), none⟩, ⟨(some 2), (.mov (.tmp 8)), none⟩])
 .ret))⟩
set_option maxRecDepth 100000 in
theorem c48 : compFunc Tryd.prog 48 = some a48 := by kernel_rfl
def dom_parent_post (r : Bool) : AV → Heap → Nat → Prop := fun v h' n' => v = (B r) ∧ (h' = (fun _ => none)) ∧ n' = 0
/-- clerestory/dom.parent -/
def dom_parent (kind : Int) : Bool :=
  ((decide (kind = 1)) || (decide (kind = 2)))
theorem dom_parent_ok {mL : Int} (kind : Int) : CPure Tryd.prog (GG mL) 48 [(I kind)] (B (dom_parent kind)) := by
  generalize h : dom_parent kind = o
  refine acalls_of_sv hmix c48 (R := dom_parent_post o) ?_
  unfold dom_parent at h
  refine Sv.seq ?_
  refine Sv.region ?_
  refine un (a1 rfl ?_)
  refine dnil ?_
  refine Sv.seq ?_
  refine Sv.region ?_
  refine un (a1 rfl ?_)
  refine un (a1 (v := (B (decide (kind = 1)))) rfl ?_)
  refine un (a1 rfl ?_)
  refine gjoin 3 (d := 8) (v := (B ((decide (kind = 1)) || (decide (kind = 2))))) (fun X hX => ?_) ?_
  · refine split2 (fun hc1 => ?_) (fun hc1 => ?_)
    · refine gs rfl rfl ?_
      refine gs rfl rfl ?_
      refine un (a1 (v := (B true)) rfl ?_)
      refine dnil ?_
      exact hX _ (.putEq (by rw [hc1]; rfl) (.skip _ _ (.skip _ _ (.putEq (by rw [hc1]) (.refl _)) rfl) rfl))
    · refine gt rfl (a1 rfl ?_)
      refine gt rfl (a1 (v := (B (decide (kind = 2)))) rfl ?_)
      refine un (a1 (v := (B (decide (kind = 2)))) rfl ?_)
      refine dnil ?_
      exact hX _ (.putEq (by rw [hc1]; rfl) (.skip _ _ (.skip _ _ (.putEq (by rw [hc1]) (.refl _)) rfl) rfl))
  refine un (a1 rfl ?_)
  refine dnil ?_
  refine Sv.ret ?_
  subst h
  exact ⟨_, .refl _, _, rfl, ⟨upd (fun _ => none) 0 (some (B ((decide (kind = 1)) || (decide (kind = 2))))), (fun _ => none), 0⟩, (B ((decide (kind = 1)) || (decide (kind = 2)))), weak_canon [] rfl List.nodup_nil (Nat.le_refl _) (fun b h => absurd h (Nat.not_lt_zero _)) (.cons rfl (avAs_free rfl) .nil) .nil, rfl, rfl, rfl, rfl⟩
def a40 : AFunc := ⟨1, [(.tmp 2)], (.seq (.region [⟨(some 1), (.box (.tmp 0)), none⟩, ⟨(some 2), (.mov (.const (.c (.val (.bool false))))), none⟩])
 (.seq (.drawn (.fin [(⟨(some 5), (.faddr 0 (.tmp 1)), none⟩, (0, 0)), (⟨(some 6), (.load false 1 (.tmp 5)), none⟩, (0, 1)), (⟨(some 7), (.bin .eql (.tmp 6) (.const (.c (.val (.int .i64 2))))), none⟩, (0, 2)), (⟨(some 8), (.faddr 0 (.tmp 1)), none⟩, (0, 3)), (⟨(some 9), (.load false 1 (.tmp 8)), none⟩, (0, 4)), (⟨(some 10), (.bin .eql (.tmp 9) (.const (.c (.val (.int .i64 3))))), none⟩, (0, 5)), (⟨(some 11), (.mov (.tmp 10)), none⟩, (0, 6)), (⟨(some 12), (.faddr 0 (.tmp 1)), (some (11, false))⟩, (0, 7)), (⟨(some 13), (.load false 1 (.tmp 12)), (some (11, false))⟩, (0, 8)), (⟨(some 14), (.bin .eql (.tmp 13) (.const (.c (.val (.int .i64 4))))), (some (11, false))⟩, (0, 9)), (⟨(some 15), (.pick (.tmp 11) (.const (.c (.val (.bool true)))) (.tmp 14)), none⟩, (0, 10)), (⟨(some 3), (.mov (.tmp 7)), none⟩, (0, 11)), (⟨(some 4), (.mov (.tmp 15)), none⟩, (0, 12))]))
 (.seq (.region [⟨(some 16), (.mov (.tmp 3)), none⟩, ⟨(some 17), (.mov (.tmp 16)), none⟩, ⟨(some 18), (.faddr 0 (.tmp 1)), (some (17, false))⟩, ⟨(some 19), (.load false 1 (.tmp 18)), (some (17, false))⟩, ⟨(some 20), (.bin .eql (.tmp 19) (.const (.c (.val (.int .i64 5))))), (some (17, false))⟩, ⟨(some 21), (.pick (.tmp 17) (.const (.c (.val (.bool true)))) (.tmp 20)), none⟩, ⟨(some 22), (.mov (.tmp 21)), none⟩, ⟨(some 23), (.faddr 1 (.tmp 1)), (some (22, false))⟩, ⟨(some 24), (.load false 1 (.tmp 23)), (some (22, false))⟩, ⟨(some 25), (.bin .eql (.tmp 24) (.const (.c (.str [])))), (some (22, false))⟩, ⟨(some 26), (.pick (.tmp 22) (.const (.c (.val (.bool true)))) (.tmp 25)), none⟩, ⟨(some 27), (.mov (.tmp 26)), none⟩, ⟨(some 28), (.mov (.tmp 3)), (some (27, true))⟩, ⟨(some 29), (.mov (.tmp 28)), (some (27, true))⟩, ⟨(some 30), (.faddr 2 (.tmp 1)), (some (29, false))⟩, ⟨(some 31), (.load false 1 (.tmp 30)), (some (29, false))⟩, ⟨(some 32), (.len (.tmp 31)), (some (29, false))⟩, ⟨(some 33), (.bin .eql (.tmp 32) (.const (.c (.val (.int .i64 0))))), (some (29, false))⟩, ⟨(some 34), (.pick (.tmp 29) (.const (.c (.val (.bool true)))) (.tmp 33)), (some (27, true))⟩, ⟨(some 35), (.pick (.tmp 27) (.tmp 34) (.const (.c (.val (.bool false))))), none⟩, ⟨(some 36), (.mov (.tmp 35)), none⟩, ⟨(some 37), (.mov (.tmp 4)), (some (36, true))⟩, ⟨(some 38), (.mov (.tmp 37)), (some (36, true))⟩, ⟨(some 39), (.faddr 3 (.tmp 1)), (some (38, false))⟩, ⟨(some 40), (.load false 1 (.tmp 39)), (some (38, false))⟩, ⟨(some 41), (.bin .eql (.tmp 40) (.const (.c (.str [])))), (some (38, false))⟩, ⟨(some 42), (.pick (.tmp 38) (.const (.c (.val (.bool true)))) (.tmp 41)), (some (36, true))⟩, ⟨(some 43), (.pick (.tmp 36) (.tmp 42) (.const (.c (.val (.bool false))))), none⟩, ⟨(some 44), (.mov (.tmp 43)), none⟩, ⟨(some 45), (.faddr 0 (.tmp 1)), (some (44, true))⟩, ⟨(some 46), (.load false 1 (.tmp 45)), (some (44, true))⟩, ⟨(some 47), (.call 48 [(.tmp 46)]), (some (44, true))⟩, ⟨(some 48), (.mov (.tmp 47)), (some (44, true))⟩, ⟨(some 49), (.faddr 5 (.tmp 1)), (some (48, false))⟩, ⟨(some 50), (.load false 1 (.tmp 49)), (some (48, false))⟩, ⟨(some 51), (.len (.tmp 50)), (some (48, false))⟩, ⟨(some 52), (.bin .eql (.tmp 51) (.const (.c (.val (.int .i64 0))))), (some (48, false))⟩, ⟨(some 53), (.pick (.tmp 48) (.const (.c (.val (.bool true)))) (.tmp 52)), (some (44, true))⟩, ⟨(some 54), (.pick (.tmp 44) (.tmp 53) (.const (.c (.val (.bool false))))), none⟩, ⟨(some 2), (.mov (.tmp 54)), none⟩])
 .ret)))⟩
set_option maxRecDepth 100000 in
theorem c40 : compFunc Tryd.prog 40 = some a40 := by kernel_rfl
def dom_bare_post (r : Bool) : AV → Heap → Nat → Prop := fun v h' n' => v = (B r) ∧ (h' = (fun _ => none)) ∧ n' = 0
/-- clerestory/dom.bare -/
def dom_bare (x_ : TNode) : Bool :=
  ((((((decide (x_.Kind = 2)) || (decide (x_.Kind = 5))) || (decide (x_.Name = []))) && ((decide (x_.Kind = 2)) || (decide ((x_.Attrs.length : Int) = 0)))) && (((decide (x_.Kind = 3)) || (decide (x_.Kind = 4))) || (decide (x_.Text = [])))) && ((dom_parent x_.Kind) || (decide ((x_.Kids.length : Int) = 0))))
theorem dom_bare_ok {mL : Int} (x_ : TNode) : CPure Tryd.prog (GG mL) 40 [(.agg [cI x_.Kind, .str x_.Name, .ro false 2 (x_.Attrs.map e_TAttr), .str x_.Text, cI x_.Parent, .ro false 1 (x_.Kids.map eI)])] (B (dom_bare x_)) := by
  generalize h : dom_bare x_ = o
  refine acalls_of_sv hmix c40 (R := dom_bare_post o) ?_
  unfold dom_bare at h
  refine Sv.seq ?_
  refine Sv.region ?_
  refine un (a2v (v := (.c (.ref 0 6 0 0))) (h' := upd _ 0 (some (.cells 6 [[cI x_.Kind, .str x_.Name, .ro false 2 (x_.Attrs.map e_TAttr), .str x_.Text, cI x_.Parent, .ro false 1 (x_.Kids.map eI)]]))) (n' := 1) rfl rfl (fun h => by cases h) ?_)
  refine un (a1 rfl ?_)
  refine dnil ?_
  refine Sv.seq ?_
  refine Sv.drawn ?_
  refine un (a1 (v := (.c (.ref 0 6 0 0))) rfl ?_)
  refine un (a1 (v := (I x_.Kind)) rfl ?_)
  refine un (a1 (v := (B (decide (x_.Kind = 2)))) rfl ?_)
  refine un (a1 (v := (.c (.ref 0 6 0 0))) rfl ?_)
  refine un (a1 (v := (I x_.Kind)) rfl ?_)
  refine un (a1 (v := (B (decide (x_.Kind = 3)))) rfl ?_)
  refine un (a1 rfl ?_)
  refine gjoin 4 (d := 15) (v := (B ((decide (x_.Kind = 3)) || (decide (x_.Kind = 4))))) (fun X hX => ?_) ?_
  · refine split2 (fun hc1 => ?_) (fun hc1 => ?_)
    · refine gs rfl rfl ?_
      refine gs rfl rfl ?_
      refine gs rfl rfl ?_
      refine un (a1 (v := (B true)) rfl ?_)
      refine dnil ?_
      exact hX _ (.putEq (by rw [hc1]; rfl) (.skip _ _ (.skip _ _ (.skip _ _ (.putEq (by rw [hc1]) (.refl _)) rfl) rfl) rfl))
    · refine gt rfl (a1 (v := (.c (.ref 0 6 0 0))) rfl ?_)
      refine gt rfl (a1 (v := (I x_.Kind)) rfl ?_)
      refine gt rfl (a1 (v := (B (decide (x_.Kind = 4)))) rfl ?_)
      refine un (a1 (v := (B (decide (x_.Kind = 4)))) rfl ?_)
      refine dnil ?_
      exact hX _ (.putEq (by rw [hc1]; rfl) (.skip _ _ (.skip _ _ (.skip _ _ (.putEq (by rw [hc1]) (.refl _)) rfl) rfl) rfl))
  refine un (a1 rfl ?_)
  refine un (a1 rfl ?_)
  refine dnil ?_
  refine Sv.seq ?_
  refine Sv.region ?_
  refine un (a1 rfl ?_)
  refine un (a1 rfl ?_)
  refine gjoin 4 (d := 21) (v := (B ((decide (x_.Kind = 2)) || (decide (x_.Kind = 5))))) (fun X hX => ?_) ?_
  · refine split2 (fun hc2 => ?_) (fun hc2 => ?_)
    · refine gs rfl rfl ?_
      refine gs rfl rfl ?_
      refine gs rfl rfl ?_
      refine un (a1 (v := (B true)) rfl ?_)
      refine dnil ?_
      exact hX _ (.putEq (by rw [hc2]; rfl) (.skip _ _ (.skip _ _ (.skip _ _ (.putEq (by rw [hc2]) (.refl _)) rfl) rfl) rfl))
    · refine gt rfl (a1 (v := (.c (.ref 0 6 0 0))) rfl ?_)
      refine gt rfl (a1 (v := (I x_.Kind)) rfl ?_)
      refine gt rfl (a1 (v := (B (decide (x_.Kind = 5)))) rfl ?_)
      refine un (a1 (v := (B (decide (x_.Kind = 5)))) rfl ?_)
      refine dnil ?_
      exact hX _ (.putEq (by rw [hc2]; rfl) (.skip _ _ (.skip _ _ (.skip _ _ (.putEq (by rw [hc2]) (.refl _)) rfl) rfl) rfl))
  refine un (a1 rfl ?_)
  refine gjoin 4 (d := 26) (v := (B (((decide (x_.Kind = 2)) || (decide (x_.Kind = 5))) || (decide (x_.Name = []))))) (fun X hX => ?_) ?_
  · refine split2 (fun hc3 => ?_) (fun hc3 => ?_)
    · refine gs rfl rfl ?_
      refine gs rfl rfl ?_
      refine gs rfl rfl ?_
      refine un (a1 (v := (B true)) rfl ?_)
      refine dnil ?_
      exact hX _ (.putEq (by rw [hc3]; rfl) (.skip _ _ (.skip _ _ (.skip _ _ (.putEq (by rw [hc3]) (.refl _)) rfl) rfl) rfl))
    · refine gt rfl (a1 (v := (.c (.ref 0 6 0 1))) rfl ?_)
      refine gt rfl (a1 (v := (S x_.Name)) rfl ?_)
      refine gt rfl (a1 (v := (B (decide (x_.Name = [])))) rfl ?_)
      refine un (a1 (v := (B (decide (x_.Name = [])))) rfl ?_)
      refine dnil ?_
      exact hX _ (.putEq (by rw [hc3]; rfl) (.skip _ _ (.skip _ _ (.skip _ _ (.putEq (by rw [hc3]) (.refl _)) rfl) rfl) rfl))
  refine un (a1 rfl ?_)
  refine gjoin 8 (d := 35) (v := (B ((((decide (x_.Kind = 2)) || (decide (x_.Kind = 5))) || (decide (x_.Name = []))) && ((decide (x_.Kind = 2)) || (decide ((x_.Attrs.length : Int) = 0)))))) (fun X hX => ?_) ?_
  · refine split2 (fun hc5 => ?_) (fun hc5 => ?_)
    · refine gt rfl (a1 rfl ?_)
      refine gt rfl (a1 rfl ?_)
      refine gjoin 5 (d := 34) (v := (B ((decide (x_.Kind = 2)) || (decide ((x_.Attrs.length : Int) = 0))))) (fun X hX => ?_) ?_
      · refine split2 (fun hc4 => ?_) (fun hc4 => ?_)
        · refine gs rfl rfl ?_
          refine gs rfl rfl ?_
          refine gs rfl rfl ?_
          refine gs rfl rfl ?_
          refine gt rfl (a1 (v := (B true)) rfl ?_)
          refine dnil ?_
          exact hX _ (.putEq (by rw [hc4]; rfl) (.skip _ _ (.skip _ _ (.skip _ _ (.skip _ _ (.putEq (by rw [hc4]) (.refl _)) rfl) rfl) rfl) rfl))
        · refine gt rfl (a1 (v := (.c (.ref 0 6 0 2))) rfl ?_)
          refine gt rfl (a1 (v := (.c (.ro false 2 (x_.Attrs.map e_TAttr)))) rfl ?_)
          refine gt rfl (a1 (v := (I (x_.Attrs.length : Int))) (s_len (e := e_TAttr) (xs := x_.Attrs) rfl) ?_)
          refine gt rfl (a1 (v := (B (decide ((x_.Attrs.length : Int) = 0)))) rfl ?_)
          refine gt rfl (a1 (v := (B (decide ((x_.Attrs.length : Int) = 0)))) rfl ?_)
          refine dnil ?_
          exact hX _ (.putEq (by rw [hc4]; rfl) (.skip _ _ (.skip _ _ (.skip _ _ (.skip _ _ (.putEq (by rw [hc4]) (.refl _)) rfl) rfl) rfl) rfl))
      refine un (a1 (v := (B ((decide (x_.Kind = 2)) || (decide ((x_.Attrs.length : Int) = 0))))) rfl ?_)
      refine dnil ?_
      exact hX _ (.putEq (by rw [hc5]; rfl) (.skip _ _ (.skip _ _ (.skip _ _ (.putEq (by rw [hc5]) (.refl _)) rfl) rfl) rfl))
    · refine gs rfl rfl ?_
      refine gs rfl rfl ?_
      refine gu rfl ?_
      refine gu rfl ?_
      refine gu rfl ?_
      refine gu rfl ?_
      refine gs rfl rfl ?_
      refine un (a1 (v := (B false)) rfl ?_)
      refine dnil ?_
      exact hX _ (.putEq (by rw [hc5]; rfl) (.skip _ _ (.skip _ _ (.skip _ _ (.skip _ _ (.skip _ _ (.skip _ _ (.skip _ _ (.putEq (by rw [hc5]) (.refl _)) rfl) rfl) rfl) rfl) rfl) rfl) rfl))
  refine un (a1 rfl ?_)
  refine gjoin 7 (d := 43) (v := (B (((((decide (x_.Kind = 2)) || (decide (x_.Kind = 5))) || (decide (x_.Name = []))) && ((decide (x_.Kind = 2)) || (decide ((x_.Attrs.length : Int) = 0)))) && (((decide (x_.Kind = 3)) || (decide (x_.Kind = 4))) || (decide (x_.Text = [])))))) (fun X hX => ?_) ?_
  · refine split2 (fun hc7 => ?_) (fun hc7 => ?_)
    · refine gt rfl (a1 rfl ?_)
      refine gt rfl (a1 rfl ?_)
      refine gjoin 4 (d := 42) (v := (B (((decide (x_.Kind = 3)) || (decide (x_.Kind = 4))) || (decide (x_.Text = []))))) (fun X hX => ?_) ?_
      · refine split2 (fun hc6 => ?_) (fun hc6 => ?_)
        · refine gs rfl rfl ?_
          refine gs rfl rfl ?_
          refine gs rfl rfl ?_
          refine gt rfl (a1 (v := (B true)) rfl ?_)
          refine dnil ?_
          exact hX _ (.putEq (by rw [hc6]; rfl) (.skip _ _ (.skip _ _ (.skip _ _ (.putEq (by rw [hc6]) (.refl _)) rfl) rfl) rfl))
        · refine gt rfl (a1 (v := (.c (.ref 0 6 0 3))) rfl ?_)
          refine gt rfl (a1 (v := (S x_.Text)) rfl ?_)
          refine gt rfl (a1 (v := (B (decide (x_.Text = [])))) rfl ?_)
          refine gt rfl (a1 (v := (B (decide (x_.Text = [])))) rfl ?_)
          refine dnil ?_
          exact hX _ (.putEq (by rw [hc6]; rfl) (.skip _ _ (.skip _ _ (.skip _ _ (.putEq (by rw [hc6]) (.refl _)) rfl) rfl) rfl))
      refine un (a1 (v := (B (((decide (x_.Kind = 3)) || (decide (x_.Kind = 4))) || (decide (x_.Text = []))))) rfl ?_)
      refine dnil ?_
      exact hX _ (.putEq (by rw [hc7]; rfl) (.skip _ _ (.skip _ _ (.skip _ _ (.putEq (by rw [hc7]) (.refl _)) rfl) rfl) rfl))
    · refine gs rfl rfl ?_
      refine gs rfl rfl ?_
      refine gu rfl ?_
      refine gu rfl ?_
      refine gu rfl ?_
      refine gs rfl rfl ?_
      refine un (a1 (v := (B false)) rfl ?_)
      refine dnil ?_
      exact hX _ (.putEq (by rw [hc7]; rfl) (.skip _ _ (.skip _ _ (.skip _ _ (.skip _ _ (.skip _ _ (.skip _ _ (.putEq (by rw [hc7]) (.refl _)) rfl) rfl) rfl) rfl) rfl) rfl))
  refine un (a1 rfl ?_)
  refine gjoin 10 (d := 54) (v := (B ((((((decide (x_.Kind = 2)) || (decide (x_.Kind = 5))) || (decide (x_.Name = []))) && ((decide (x_.Kind = 2)) || (decide ((x_.Attrs.length : Int) = 0)))) && (((decide (x_.Kind = 3)) || (decide (x_.Kind = 4))) || (decide (x_.Text = [])))) && ((dom_parent x_.Kind) || (decide ((x_.Kids.length : Int) = 0)))))) (fun X hX => ?_) ?_
  · refine split2 (fun hc9 => ?_) (fun hc9 => ?_)
    · refine gt rfl (a1 (v := (.c (.ref 0 6 0 0))) rfl ?_)
      refine gt rfl (a1 (v := (I x_.Kind)) rfl ?_)
      refine gt rfl (ac_pure (dom_parent_ok (mL := mL) x_.Kind) rfl rfl rfl ?_)
      refine gt rfl (a1 rfl ?_)
      refine gjoin 5 (d := 53) (v := (B ((dom_parent x_.Kind) || (decide ((x_.Kids.length : Int) = 0))))) (fun X hX => ?_) ?_
      · refine split2 (fun hc8 => ?_) (fun hc8 => ?_)
        · refine gs rfl rfl ?_
          refine gs rfl rfl ?_
          refine gs rfl rfl ?_
          refine gs rfl rfl ?_
          refine gt rfl (a1 (v := (B true)) rfl ?_)
          refine dnil ?_
          exact hX _ (.putEq (by rw [hc8]; rfl) (.skip _ _ (.skip _ _ (.skip _ _ (.skip _ _ (.putEq (by rw [hc8]) (.refl _)) rfl) rfl) rfl) rfl))
        · refine gt rfl (a1 (v := (.c (.ref 0 6 0 5))) rfl ?_)
          refine gt rfl (a1 (v := (.c (.ro false 1 (x_.Kids.map eI)))) rfl ?_)
          refine gt rfl (a1 (v := (I (x_.Kids.length : Int))) (s_len (e := eI) (xs := x_.Kids) rfl) ?_)
          refine gt rfl (a1 (v := (B (decide ((x_.Kids.length : Int) = 0)))) rfl ?_)
          refine gt rfl (a1 (v := (B (decide ((x_.Kids.length : Int) = 0)))) rfl ?_)
          refine dnil ?_
          exact hX _ (.putEq (by rw [hc8]; rfl) (.skip _ _ (.skip _ _ (.skip _ _ (.skip _ _ (.putEq (by rw [hc8]) (.refl _)) rfl) rfl) rfl) rfl))
      refine un (a1 (v := (B ((dom_parent x_.Kind) || (decide ((x_.Kids.length : Int) = 0))))) rfl ?_)
      refine dnil ?_
      exact hX _ (.putEq (by rw [hc9]; rfl) (.skip _ _ (.skip _ _ (.skip _ _ (.skip _ _ (.skip _ _ (.putEq (by rw [hc9]) (.refl _)) rfl) rfl) rfl) rfl) rfl))
    · refine gs rfl rfl ?_
      refine gs rfl rfl ?_
      refine gs rfl rfl ?_
      refine gs rfl rfl ?_
      refine gu rfl ?_
      refine gu rfl ?_
      refine gu rfl ?_
      refine gu rfl ?_
      refine gs rfl rfl ?_
      refine un (a1 (v := (B false)) rfl ?_)
      refine dnil ?_
      exact hX _ (.putEq (by rw [hc9]; rfl) (.skip _ _ (.skip _ _ (.skip _ _ (.skip _ _ (.skip _ _ (.skip _ _ (.skip _ _ (.skip _ _ (.skip _ _ (.putEq (by rw [hc9]) (.refl _)) rfl) rfl) rfl) rfl) rfl) rfl) rfl) rfl) rfl))
  refine un (a1 rfl ?_)
  refine dnil ?_
  refine Sv.ret ?_
  subst h
  exact ⟨_, .refl _, _, rfl, ⟨upd (fun _ => none) 0 (some (B ((((((decide (x_.Kind = 2)) || (decide (x_.Kind = 5))) || (decide (x_.Name = []))) && ((decide (x_.Kind = 2)) || (decide ((x_.Attrs.length : Int) = 0)))) && (((decide (x_.Kind = 3)) || (decide (x_.Kind = 4))) || (decide (x_.Text = [])))) && ((dom_parent x_.Kind) || (decide ((x_.Kids.length : Int) = 0)))))), (fun _ => none), 0⟩, (B ((((((decide (x_.Kind = 2)) || (decide (x_.Kind = 5))) || (decide (x_.Name = []))) && ((decide (x_.Kind = 2)) || (decide ((x_.Attrs.length : Int) = 0)))) && (((decide (x_.Kind = 3)) || (decide (x_.Kind = 4))) || (decide (x_.Text = [])))) && ((dom_parent x_.Kind) || (decide ((x_.Kids.length : Int) = 0))))), weak_canon [] rfl List.nodup_nil (Nat.le_refl _) (fun b h => absurd h (Nat.not_lt_zero _)) (.cons rfl (avAs_free rfl) .nil) .nil, rfl, rfl, rfl, rfl⟩
noncomputable abbrev strings_IndexByte (s_ : (List UInt8)) (c_ : Int) : Option Int := indexByte? s_ c_
/-- strings.IndexByte, by the contract of the shelf -/
theorem strings_IndexByte_ok {mL : Int} {s_ : (List UInt8)} {c_ : Int} {r : Int} (h : strings_IndexByte s_ c_ = some r) : CPure Tryd.prog (GG mL) 54 [(S s_), (.c (.val (.int .u8 c_)))] (I r) := indexByte_ok Tryd.lays137 h
noncomputable abbrev strings_Trim (s_ : (List UInt8)) (cutset_ : (List UInt8)) : Option (List UInt8) := trim? s_ cutset_
/-- strings.Trim, by the contract of the shelf -/
theorem strings_Trim_ok {mL : Int} {s_ : (List UInt8)} {cutset_ : (List UInt8)} {r : (List UInt8)} (h : strings_Trim s_ cutset_ = some r) : CPure Tryd.prog (GG mL) 55 [(S s_), (S cutset_)] (S r) := trim_ok Tryd.lays160 (by kernel_rfl) h
def a49_c0 : ACode := .ret
def a49 : AFunc := ⟨2, [(.tmp 4)], (.seq (.region [⟨(some 4), (.mov (.const (.c (.val (.bool false))))), none⟩])
 (.seq (.region [⟨(some 5), (.mov (.tmp 0)), none⟩, ⟨(some 6), (.bin .neq (.tmp 5) (.const (.c (.str [])))), none⟩, ⟨(some 7), (.mov (.tmp 6)), none⟩, ⟨(some 8), (.mov (.tmp 0)), (some (7, true))⟩, ⟨(some 9), (.lenS (.tmp 8)), (some (7, true))⟩, ⟨(some 10), (.bin .leq (.tmp 9) (.const (.c (.val (.int .i64 40))))), (some (7, true))⟩, ⟨(some 11), (.pick (.tmp 7) (.tmp 10) (.const (.c (.val (.bool false))))), none⟩, ⟨(some 12), (.mov (.tmp 11)), none⟩, ⟨(some 13), (.mov (.tmp 1)), (some (12, true))⟩, ⟨(some 14), (.mov (.tmp 0)), (some (12, true))⟩, ⟨(some 15), (.idxS (.tmp 14) (.const (.c (.val (.int .i64 0))))), (some (12, true))⟩, ⟨(some 16), (.call 54 [(.tmp 13), (.tmp 15)]), (some (12, true))⟩, ⟨(some 17), (.bin .geq (.tmp 16) (.const (.c (.val (.int .i64 0))))), (some (12, true))⟩, ⟨(some 18), (.pick (.tmp 12) (.tmp 17) (.const (.c (.val (.bool false))))), none⟩, ⟨(some 19), (.mov (.tmp 18)), none⟩, ⟨(some 20), (.mov (.tmp 0)), (some (19, true))⟩, ⟨(some 21), (.call 55 [(.tmp 20), (.const (.c (.str [97, 98, 99, 100, 101, 102, 103, 104, 105, 106, 107, 108, 109, 110, 111, 112, 113, 114, 115, 116, 117, 118, 119, 120, 121, 122, 48, 49, 50, 51, 52, 53, 54, 55, 56, 57, 45, 95, 58])))]), (some (19, true))⟩, ⟨(some 22), (.bin .eql (.tmp 21) (.const (.c (.str [])))), (some (19, true))⟩, ⟨(some 23), (.pick (.tmp 19) (.tmp 22) (.const (.c (.val (.bool false))))), none⟩, ⟨(some 4), (.mov (.tmp 23)), none⟩])
 a49_c0))⟩
set_option maxRecDepth 100000 in
theorem c49 : compFunc Tryd.prog 49 = some a49 := by kernel_rfl
def dom_named_post (r : Bool) : AV → Heap → Nat → Prop := fun v h' n' => v = (B r) ∧ (h' = (fun _ => none)) ∧ n' = 0
noncomputable def dom_named_j1 (v4 : Bool) : Option Bool :=
  some v4
theorem dom_named_j1_ok {mL : Int} {v4 : Bool} {o : Bool} (h : dom_named_j1 v4 = some o) :
    Sv Tryd.prog (GG mL) 0 a49_c0 (Ends a49.results 0 (dom_named_post o)) ⟨(upd (fun _ => none) 4 (some (B v4))), (fun _ => none), 0⟩ := by
  unfold dom_named_j1 at h
  refine Sv.ret ?_
  replace h := Option.some.inj h
  subst h
  exact ⟨_, .refl _, _, rfl, ⟨upd (fun _ => none) 0 (some (B v4)), (fun _ => none), 0⟩, (B v4), weak_canon [] rfl List.nodup_nil (Nat.le_refl _) (fun b h => absurd h (Nat.not_lt_zero _)) (.cons rfl (avAs_free rfl) .nil) .nil, rfl, rfl, rfl, rfl⟩
/-- clerestory/dom.named -/
noncomputable def dom_named (s_ : (List UInt8)) (first_ : (List UInt8)) : Option Bool :=
  if ((!decide (s_ = [])) && (decide ((s_.length : Int) ≤ 40))) then
    (at? s_ 0).bind fun c_ =>
    (strings_IndexByte first_ (c_.toNat : Int)).bind fun r_ =>
    if decide (0 ≤ r_) then
      (strings_Trim s_ [97, 98, 99, 100, 101, 102, 103, 104, 105, 106, 107, 108, 109, 110, 111, 112, 113, 114, 115, 116, 117, 118, 119, 120, 121, 122, 48, 49, 50, 51, 52, 53, 54, 55, 56, 57, 45, 95, 58]).bind fun r_1 =>
      dom_named_j1 (decide (r_1 = []))
    else
      dom_named_j1 false
  else
    dom_named_j1 false
theorem dom_named_ok {mL : Int} {s_ : (List UInt8)} {first_ : (List UInt8)} {r : Bool} (h : dom_named s_ first_ = some r) : CPure Tryd.prog (GG mL) 49 [(S s_), (S first_)] (B r) := by
  refine acalls_of_sv hmix c49 (R := dom_named_post r) ?_
  unfold dom_named at h
  refine Sv.seq ?_
  refine Sv.region ?_
  refine un (a1 rfl ?_)
  refine dnil ?_
  refine Sv.seq ?_
  refine Sv.region ?_
  refine un (a1 rfl ?_)
  refine un (a1 (v := (B (!decide (s_ = [])))) rfl ?_)
  refine un (a1 rfl ?_)
  refine gjoin 4 (d := 11) (v := (B ((!decide (s_ = [])) && (decide ((s_.length : Int) ≤ 40))))) (fun X hX => ?_) ?_
  · refine split2 (fun hc1 => ?_) (fun hc1 => ?_)
    · refine gt rfl (a1 rfl ?_)
      refine gt rfl (a1 (v := (I (s_.length : Int))) rfl ?_)
      refine gt rfl (a1 (v := (B (decide ((s_.length : Int) ≤ 40)))) rfl ?_)
      refine un (a1 (v := (B (decide ((s_.length : Int) ≤ 40)))) rfl ?_)
      refine dnil ?_
      exact hX _ (.putEq (by rw [hc1]; rfl) (.skip _ _ (.skip _ _ (.skip _ _ (.putEq (by rw [hc1]) (.refl _)) rfl) rfl) rfl))
    · refine gs rfl rfl ?_
      refine gs rfl rfl ?_
      refine gs rfl rfl ?_
      refine un (a1 (v := (B false)) rfl ?_)
      refine dnil ?_
      exact hX _ (.putEq (by rw [hc1]; rfl) (.skip _ _ (.skip _ _ (.skip _ _ (.putEq (by rw [hc1]) (.refl _)) rfl) rfl) rfl))
  refine un (a1 rfl ?_)
  refine split2 (fun hc2 => ?_) (fun hc2 => ?_)
  · replace h := ifT hc2 h
    refine gt rfl (a1 rfl ?_)
    refine gt rfl (a1 rfl ?_)
    obtain ⟨c_, hx1, h⟩ := bnd h
    refine gt rfl (a1 (v := (.c (.val (.int .u8 (c_.toNat : Int))))) (s_idxS rfl rfl hx1) ?_)
    obtain ⟨r_, hr1, h⟩ := bnd h
    refine gt rfl (ac_pure (strings_IndexByte_ok hr1) rfl rfl rfl ?_)
    refine gt rfl (a1 (v := (B (decide (0 ≤ r_)))) rfl ?_)
    refine un (a1 (v := (B (decide (0 ≤ r_)))) rfl ?_)
    refine un (a1 rfl ?_)
    refine split2 (fun hc3 => ?_) (fun hc3 => ?_)
    · replace h := ifT hc3 h
      refine gt rfl (a1 rfl ?_)
      obtain ⟨r_1, hr2, h⟩ := bnd h
      refine gt rfl (ac_pure (strings_Trim_ok hr2) rfl rfl rfl ?_)
      refine gt rfl (a1 (v := (B (decide (r_1 = [])))) rfl ?_)
      refine un (a1 (v := (B (decide (r_1 = [])))) rfl ?_)
      refine un (a1 rfl ?_)
      refine dnil ?_
      exact Sv.weak (weak_canon [] rfl (by decide) (by decide) (fun b h => absurd h (Nat.not_lt_zero _)) (.cons rfl (avAs_free rfl) .nil) .nil) (dom_named_j1_ok h)
    · replace h := ifF hc3 h
      refine gs rfl rfl ?_
      refine gs rfl rfl ?_
      refine gs rfl rfl ?_
      refine un (a1 (v := (B false)) rfl ?_)
      refine un (a1 rfl ?_)
      refine dnil ?_
      exact Sv.weak (weak_canon [] rfl (by decide) (by decide) (fun b h => absurd h (Nat.not_lt_zero _)) (.cons rfl (avAs_free rfl) .nil) .nil) (dom_named_j1_ok h)
  · replace h := ifF hc2 h
    refine gs rfl rfl ?_
    refine gs rfl rfl ?_
    refine gs rfl rfl ?_
    refine gs rfl rfl ?_
    refine gs rfl rfl ?_
    refine un (a1 (v := (B false)) rfl ?_)
    refine un (a1 rfl ?_)
    refine gs rfl rfl ?_
    refine gs rfl rfl ?_
    refine gs rfl rfl ?_
    refine un (a1 (v := (B false)) rfl ?_)
    refine un (a1 rfl ?_)
    refine dnil ?_
    exact Sv.weak (weak_canon [] rfl (by decide) (by decide) (fun b h => absurd h (Nat.not_lt_zero _)) (.cons rfl (avAs_free rfl) .nil) .nil) (dom_named_j1_ok h)
def a41 : AFunc := ⟨1, [(.tmp 2)], (.seq (.region [⟨(some 2), (.mov (.const (.c (.val (.bool false))))), none⟩])
 (.seq (.region [⟨(some 3), (.mov (.tmp 0)), none⟩, ⟨(some 4), (.slStr (.const (.c (.str [97, 98, 99, 100, 101, 102, 103, 104, 105, 106, 107, 108, 109, 110, 111, 112, 113, 114, 115, 116, 117, 118, 119, 120, 121, 122, 48, 49, 50, 51, 52, 53, 54, 55, 56, 57, 45, 95, 58]))) none (some (.const (.c (.val (.int .i64 26)))))), none⟩, ⟨(some 5), (.call 49 [(.tmp 3), (.tmp 4)]), none⟩, ⟨(some 2), (.mov (.tmp 5)), none⟩])
 .ret))⟩
set_option maxRecDepth 100000 in
theorem c41 : compFunc Tryd.prog 41 = some a41 := by kernel_rfl
def dom_Name_post (r : Bool) : AV → Heap → Nat → Prop := fun v h' n' => v = (B r) ∧ (h' = (fun _ => none)) ∧ n' = 0
/-- clerestory/dom.Name -/
noncomputable def dom_Name (s_ : (List UInt8)) : Option Bool :=
  (sub? [97, 98, 99, 100, 101, 102, 103, 104, 105, 106, 107, 108, 109, 110, 111, 112, 113, 114, 115, 116, 117, 118, 119, 120, 121, 122, 48, 49, 50, 51, 52, 53, 54, 55, 56, 57, 45, 95, 58] 0 26).bind fun r_ =>
  (dom_named s_ r_).bind fun r_1 =>
  some r_1
theorem dom_Name_ok {mL : Int} {s_ : (List UInt8)} {r : Bool} (h : dom_Name s_ = some r) : CPure Tryd.prog (GG mL) 41 [(S s_)] (B r) := by
  refine acalls_of_sv hmix c41 (R := dom_Name_post r) ?_
  unfold dom_Name at h
  refine Sv.seq ?_
  refine Sv.region ?_
  refine un (a1 rfl ?_)
  refine dnil ?_
  refine Sv.seq ?_
  refine Sv.region ?_
  refine un (a1 rfl ?_)
  obtain ⟨r_, hx1, h⟩ := bnd h
  refine un (a1 (v := (S r_)) (s_slStr rfl rfl rfl hx1) ?_)
  obtain ⟨r_1, hr1, h⟩ := bnd h
  refine un (ac_pure (dom_named_ok hr1) rfl rfl rfl ?_)
  refine un (a1 rfl ?_)
  refine dnil ?_
  refine Sv.ret ?_
  replace h := Option.some.inj h
  subst h
  exact ⟨_, .refl _, _, rfl, ⟨upd (fun _ => none) 0 (some (B r_1)), (fun _ => none), 0⟩, (B r_1), weak_canon [] rfl List.nodup_nil (Nat.le_refl _) (fun b h => absurd h (Nat.not_lt_zero _)) (.cons rfl (avAs_free rfl) .nil) .nil, rfl, rfl, rfl, rfl⟩
def a50 : AFunc := ⟨1, [(.tmp 2)], (.seq (.region [⟨(some 2), (.mov (.const (.c (.val (.bool false))))), none⟩])
 (.seq (.region [⟨(some 3), (.mov (.tmp 0)), none⟩, ⟨(some 4), (.slStr (.const (.c (.str [97, 98, 99, 100, 101, 102, 103, 104, 105, 106, 107, 108, 109, 110, 111, 112, 113, 114, 115, 116, 117, 118, 119, 120, 121, 122, 48, 49, 50, 51, 52, 53, 54, 55, 56, 57, 45, 95, 58]))) none (some (.const (.c (.val (.int .i64 26)))))), none⟩, ⟨(some 5), (.bin .add (.tmp 4) (.const (.c (.str [45, 95])))), none⟩, ⟨(some 6), (.call 49 [(.tmp 3), (.tmp 5)]), none⟩, ⟨(some 2), (.mov (.tmp 6)), none⟩])
 .ret))⟩
set_option maxRecDepth 100000 in
theorem c50 : compFunc Tryd.prog 50 = some a50 := by kernel_rfl
def dom_attrName_post (r : Bool) : AV → Heap → Nat → Prop := fun v h' n' => v = (B r) ∧ (h' = (fun _ => none)) ∧ n' = 0
/-- clerestory/dom.attrName -/
noncomputable def dom_attrName (s_ : (List UInt8)) : Option Bool :=
  (sub? [97, 98, 99, 100, 101, 102, 103, 104, 105, 106, 107, 108, 109, 110, 111, 112, 113, 114, 115, 116, 117, 118, 119, 120, 121, 122, 48, 49, 50, 51, 52, 53, 54, 55, 56, 57, 45, 95, 58] 0 26).bind fun r_ =>
  (cat? r_ [45, 95]).bind fun r_1 =>
  (dom_named s_ r_1).bind fun r_2 =>
  some r_2
theorem dom_attrName_ok {mL : Int} {s_ : (List UInt8)} {r : Bool} (h : dom_attrName s_ = some r) : CPure Tryd.prog (GG mL) 50 [(S s_)] (B r) := by
  refine acalls_of_sv hmix c50 (R := dom_attrName_post r) ?_
  unfold dom_attrName at h
  refine Sv.seq ?_
  refine Sv.region ?_
  refine un (a1 rfl ?_)
  refine dnil ?_
  refine Sv.seq ?_
  refine Sv.region ?_
  refine un (a1 rfl ?_)
  obtain ⟨r_, hx1, h⟩ := bnd h
  refine un (a1 (v := (S r_)) (s_slStr rfl rfl rfl hx1) ?_)
  obtain ⟨r_1, hx2, h⟩ := bnd h
  refine un (a1 (v := (S r_1)) (s_cat rfl rfl hx2) ?_)
  obtain ⟨r_2, hr1, h⟩ := bnd h
  refine un (ac_pure (dom_named_ok hr1) rfl rfl rfl ?_)
  refine un (a1 rfl ?_)
  refine dnil ?_
  refine Sv.ret ?_
  replace h := Option.some.inj h
  subst h
  exact ⟨_, .refl _, _, rfl, ⟨upd (fun _ => none) 0 (some (B r_2)), (fun _ => none), 0⟩, (B r_2), weak_canon [] rfl List.nodup_nil (Nat.le_refl _) (fun b h => absurd h (Nat.not_lt_zero _)) (.cons rfl (avAs_free rfl) .nil) .nil, rfl, rfl, rfl, rfl⟩
def a57 : AFunc := ⟨2, [(.tmp 3)], (.seq (.region [⟨(some 2), (.box (.tmp 0)), none⟩, ⟨(some 3), (.mov (.const (.c (.val (.bool false))))), none⟩])
 (.seq (.region [⟨(some 4), (.faddr 0 (.tmp 2)), none⟩, ⟨(some 5), (.load false 1 (.tmp 4)), none⟩, ⟨(some 6), (.load false 1 (.tmp 1)), none⟩, ⟨(some 7), (.bin .eql (.tmp 5) (.tmp 6)), none⟩, ⟨(some 3), (.mov (.tmp 7)), none⟩])
 .ret))⟩
set_option maxRecDepth 100000 in
theorem c57 : compFunc Tryd.prog 57 = some a57 := by kernel_rfl
def dom_find_fn1_post (r : Bool) : AV → Heap → Nat → Prop := fun v h' n' => v = (B r) ∧ (h' = (fun _ => none)) ∧ n' = 0
/-- clerestory/dom.find$1 -/
def dom_find_fn1 (a_ : TAttr) (v1 : (List UInt8)) : Bool :=
  decide (a_.Name = v1)
theorem dom_find_fn1_ok {mL : Int} (a_ : TAttr) (v1 : (List UInt8)) : CPure Tryd.prog (GG mL) 57 [(.agg [.str a_.Name, .str a_.Value]), (.c (.rop [.str v1]))] (B (dom_find_fn1 a_ v1)) := by
  generalize h : dom_find_fn1 a_ v1 = o
  refine acalls_of_sv hmix c57 (R := dom_find_fn1_post o) ?_
  unfold dom_find_fn1 at h
  refine Sv.seq ?_
  refine Sv.region ?_
  refine un (a2v (v := (.c (.ref 0 2 0 0))) (h' := upd _ 0 (some (.cells 2 [[.str a_.Name, .str a_.Value]]))) (n' := 1) rfl rfl (fun h => by cases h) ?_)
  refine un (a1 rfl ?_)
  refine dnil ?_
  refine Sv.seq ?_
  refine Sv.region ?_
  refine un (a1 (v := (.c (.ref 0 2 0 0))) rfl ?_)
  refine un (a1 (v := (S a_.Name)) rfl ?_)
  refine un (a1 (v := (S v1)) rfl ?_)
  refine un (a1 (v := (B (decide (a_.Name = v1)))) rfl ?_)
  refine un (a1 rfl ?_)
  refine dnil ?_
  refine Sv.ret ?_
  subst h
  exact ⟨_, .refl _, _, rfl, ⟨upd (fun _ => none) 0 (some (B (decide (a_.Name = v1)))), (fun _ => none), 0⟩, (B (decide (a_.Name = v1))), weak_canon [] rfl List.nodup_nil (Nat.le_refl _) (fun b h => absurd h (Nat.not_lt_zero _)) (.cons rfl (avAs_free rfl) .nil) .nil, rfl, rfl, rfl, rfl⟩
def a56_c0 : ACode := (.seq (.region [⟨(some 9), (.bin .lss (.tmp 8) (.tmp 7)), none⟩])
 (.seq (.cond (.tmp 9) .skip (.exit 0))
 (.seq (.block 1 (.seq (.region [⟨(some 10), (.mov (.tmp 8)), none⟩, ⟨(some 5), (.mov (.tmp 10)), none⟩])
 (.seq (.region [⟨(some 11), (.mov (.tmp 1)), none⟩, ⟨(some 12), (.mov (.tmp 0)), none⟩, ⟨(some 13), (.mov (.tmp 5)), none⟩, ⟨(some 14), (.iaddr 2 (.tmp 12) (.tmp 13)), none⟩, ⟨(some 15), (.load true 2 (.tmp 14)), none⟩, ⟨(some 16), (.callv (.tmp 11) [(.tmp 15)]), none⟩])
 (.cond (.tmp 16) (.seq (.region [⟨(some 17), (.mov (.tmp 5)), none⟩, ⟨(some 4), (.mov (.tmp 17)), none⟩])
 .ret) .skip))))
 (.region [⟨(some 18), (.bin .add (.tmp 8) (.const (.c (.val (.int .i64 1))))), none⟩, ⟨(some 8), (.mov (.tmp 18)), none⟩]))))
def a56 : AFunc := ⟨2, [(.tmp 4)], (.seq (.region [⟨(some 4), (.mov (.const (.c (.val (.int .i64 0))))), none⟩])
 (.seq (.seq (.region [⟨(some 6), (.mov (.tmp 0)), none⟩, ⟨(some 7), (.len (.tmp 6)), none⟩, ⟨(some 8), (.mov (.const (.c (.val (.int .i64 0))))), none⟩])
 (.block 0 (.loop a56_c0)))
 (.seq (.region [⟨(some 4), (.mov (.const (.c (.val (.int .i64 (-1)))))), none⟩])
 .ret)))⟩
set_option maxRecDepth 100000 in
theorem c56 : compFunc Tryd.prog 56 = some a56 := by kernel_rfl
def slices_IndexFunc_Attr_post (r : Int) : AV → Heap → Nat → Prop := fun v h' n' => v = (I r) ∧ (h' = (fun _ => none)) ∧ n' = 0
abbrev slices_IndexFunc_Attr_l0_E0 (F_ : Unit → Option Int) (o : Int) (R_ : St → Prop) : Prop := ∀ (_ : Unit), F_ () = some o → ∀ s, Weak 0 s ⟨(fun _ => none), (fun _ => none), 0⟩ → R_ s
abbrev slices_IndexFunc_Attr_l0_I (s_ : (List TAttr)) (fc : (List UInt8)) (F_ : Nat → Int → Option Int) (o : Int) : Nat → St → Prop := fun k s => ∃ (v8 : Int), F_ k v8 = some o ∧ s = ⟨(upd (upd (upd (upd (fun _ => none) 0 (some (.c (.ro false 2 (s_.map e_TAttr))))) 1 (some (.c (.fn (.func 57) [] [.rop [.str fc]])))) 7 (some (I (s_.length : Int)))) 8 (some (I v8))), (fun _ => none), 0⟩
abbrev slices_IndexFunc_Attr_l0_H (s_ : (List TAttr)) (fc : (List UInt8)) (F_ : Int → Option Int) (o : Int) (R_ : St → Prop) : Prop := ∀ (v8 : Int), F_ v8 = some o → ∀ s, Weak 0 s ⟨(upd (upd (upd (upd (fun _ => none) 0 (some (.c (.ro false 2 (s_.map e_TAttr))))) 1 (some (.c (.fn (.func 57) [] [.rop [.str fc]])))) 7 (some (I (s_.length : Int)))) 8 (some (I v8))), (fun _ => none), 0⟩ → R_ s
noncomputable def slices_IndexFunc_Attr_l0 (s_ : (List TAttr)) (fc : (List UInt8)) (K0_ : Unit → Option Int) : Nat → Int → Option Int
  | 0, _ => none
  | k + 1, v8 =>
    if decide (v8 < (s_.length : Int)) then
      (at? s_ v8).bind fun x_ =>
      if (dom_find_fn1 x_ fc) then
        some v8
      else
        (slices_IndexFunc_Attr_l0 s_ fc K0_ k) (wi (v8 + 1))
    else
      K0_ ()
theorem slices_IndexFunc_Attr_l0_ok {mL : Int} {Q : AExit → St → Prop} {s_ : (List TAttr)} {fc : (List UInt8)} {K0_ : Unit → Option Int} {k : Nat} {v8 : Int} {o : Int} (h : slices_IndexFunc_Attr_l0 s_ fc K0_ k v8 = some o)
    (hK0 : slices_IndexFunc_Attr_l0_E0 K0_ o (Q (.exit 0)))
    (hr : ∀ s, Ends a56.results 0 (slices_IndexFunc_Attr_post o) .ret s → Q .ret s) :
    Sv Tryd.prog (GG mL) 0 (.loop a56_c0) Q ⟨(upd (upd (upd (upd (fun _ => none) 0 (some (.c (.ro false 2 (s_.map e_TAttr))))) 1 (some (.c (.fn (.func 57) [] [.rop [.str fc]])))) 7 (some (I (s_.length : Int)))) 8 (some (I v8))), (fun _ => none), 0⟩ := by
  refine Sv.loop (I := slices_IndexFunc_Attr_l0_I s_ fc (slices_IndexFunc_Attr_l0 s_ fc K0_) o) (fun k s hI => ?_) ⟨v8, h, rfl⟩
  clear h
  clear v8
  obtain ⟨v8, h, rfl⟩ := hI
  cases k with
  | zero => cases h
  | succ k =>
  rw [slices_IndexFunc_Attr_l0] at h
  have hself : slices_IndexFunc_Attr_l0_H s_ fc (slices_IndexFunc_Attr_l0 s_ fc K0_ k) o (rnd 0 (slices_IndexFunc_Attr_l0_I s_ fc (slices_IndexFunc_Attr_l0 s_ fc K0_) o) k Q) := fun v8 h s hw => ⟨_, k, hw, Nat.lt_succ_self k, v8, h, rfl⟩
  refine Sv.seq ?_
  refine Sv.region ?_
  refine un (a1 (v := (B (decide (v8 < (s_.length : Int))))) rfl ?_)
  refine dnil ?_
  refine Sv.seq ?_
  refine Sv.cond (b := decide (v8 < (s_.length : Int))) rfl (fun hc1 => ?_) (fun hc1 => ?_)
  · replace h := ifT hc1 h
    refine Sv.skip ?_
    refine Sv.seq ?_
    refine Sv.block ?_
    refine Sv.seq ?_
    refine Sv.region ?_
    refine un (a1 rfl ?_)
    refine un (a1 rfl ?_)
    refine dnil ?_
    refine Sv.seq ?_
    refine Sv.region ?_
    refine un (a1 rfl ?_)
    refine un (a1 rfl ?_)
    refine un (a1 rfl ?_)
    obtain ⟨x_, hx1, h⟩ := bnd h
    refine un (a1 (v := (.c (.rop [.str x_.Name, .str x_.Value]))) (s_iaddr (e := e_TAttr) (xs := s_) rfl rfl hx1) ?_)
    refine un (a1 (v := (.agg [.str x_.Name, .str x_.Value])) rfl ?_)
    refine un (acv_gen (bs := []) («as» := [(.agg [.str x_.Name, .str x_.Value]), (.c (.rop [.str fc]))]) (h2 := _) (h1 := (fun _ => none)) rfl (by kernel_rfl) (dom_find_fn1_ok (mL := mL) x_ fc) rfl (.cons (avAs_free rfl) (.cons (avAs_free rfl) .nil)) (hsub_refl _) (.nil _) (fun _ => rfl) (by decide) (by decide) (.cons (avAs_free rfl) (.cons (avAs_free rfl) .nil)) .nil ?_)
    rintro _ _ _ hn ⟨rfl, rfl, rfl⟩
    refine ⟨.inl rfl, (rem [] _), fun hbd => (m3_rem (in_nil _) (.nil) hbd), (B (dom_find_fn1 x_ fc)), 0, rfl, rfl, ?_⟩
    refine dnil ?_
    refine Sv.cond (b := (dom_find_fn1 x_ fc)) rfl (fun hc2 => ?_) (fun hc2 => ?_)
    · replace h := ifT hc2 h
      refine Sv.seq ?_
      refine Sv.region ?_
      refine un (a1 rfl ?_)
      refine un (a1 rfl ?_)
      refine dnil ?_
      refine Sv.ret ?_
      replace h := Option.some.inj h
      subst h
      exact hr _ ⟨_, .refl _, _, rfl, ⟨upd (fun _ => none) 0 (some (I v8)), (fun _ => none), 0⟩, (I v8), weak_canon [] rfl List.nodup_nil (Nat.le_refl _) (fun b h => absurd h (Nat.not_lt_zero _)) (.cons rfl (avAs_free rfl) .nil) .nil, rfl, rfl, rfl, rfl⟩
    · replace h := ifF hc2 h
      refine Sv.skip ?_
      refine Sv.region ?_
      refine un (a1 (v := (I (wi (v8 + 1)))) rfl ?_)
      refine un (a1 rfl ?_)
      refine dnil ?_
      exact hself (wi (v8 + 1)) h _ (weak_canon [] rfl (by decide) (by decide) (fun b h => absurd h (Nat.not_lt_zero _)) (.cons rfl (avAs_free rfl) (.cons rfl (avAs_free rfl) (.cons rfl (.c (fn_as .nil (.cons (.same rfl) .nil))) (.cons rfl (avAs_free rfl) .nil)))) .nil)
  · replace h := ifF hc1 h
    refine Sv.exit ?_
    exact hK0 () h _ (weak_canon [] rfl (by decide) (by decide) (fun b h => absurd h (Nat.not_lt_zero _)) .nil .nil)
/-- slices.IndexFunc(()clerestory/api.Attr,clerestory/api.Attr) -/
noncomputable def slices_IndexFunc_Attr (s_ : (List TAttr)) (fc : (List UInt8)) : Option Int :=
  lim fun kk => slices_IndexFunc_Attr_l0 s_ fc (fun (_ : Unit) => 
      some (-1)) kk 0
theorem slices_IndexFunc_Attr_ok {mL : Int} {s_ : (List TAttr)} {fc : (List UInt8)} {r : Int} (h : slices_IndexFunc_Attr s_ fc = some r) : CPure Tryd.prog (GG mL) 56 [(.c (.ro false 2 (s_.map e_TAttr))), (.c (.fn (.func 57) [] [.rop [.str fc]]))] (I r) := by
  refine acalls_of_sv hmix c56 (R := slices_IndexFunc_Attr_post r) ?_
  unfold slices_IndexFunc_Attr at h
  refine Sv.seq ?_
  refine Sv.region ?_
  refine un (a1 rfl ?_)
  refine dnil ?_
  refine Sv.seq ?_
  refine Sv.seq ?_
  refine Sv.region ?_
  refine un (a1 rfl ?_)
  refine un (a1 (v := (I (s_.length : Int))) (s_len (e := e_TAttr) (xs := s_) rfl) ?_)
  refine un (a1 rfl ?_)
  refine dnil ?_
  refine Sv.block ?_
  obtain ⟨kk, h⟩ := lim_some h
  refine Sv.weak (weak_canon [] rfl (by decide) (by decide) (fun b h => absurd h (Nat.not_lt_zero _)) (.cons rfl (avAs_free rfl) (.cons rfl (avAs_free rfl) (.cons rfl (.c (fn_as .nil (.cons (.same rfl) .nil))) (.cons rfl (avAs_free rfl) .nil)))) .nil) (slices_IndexFunc_Attr_l0_ok h ?_ (fun s hs => hs))
  · intro _ h _ hw1
    refine Sv.weak hw1 ?_
    refine Sv.seq ?_
    refine Sv.region ?_
    refine un (a1 rfl ?_)
    refine dnil ?_
    refine Sv.ret ?_
    replace h := Option.some.inj h
    subst h
    exact ⟨_, .refl _, _, rfl, ⟨upd (fun _ => none) 0 (some (I (-1))), (fun _ => none), 0⟩, (I (-1)), weak_canon [] rfl List.nodup_nil (Nat.le_refl _) (fun b h => absurd h (Nat.not_lt_zero _)) (.cons rfl (avAs_free rfl) .nil) .nil, rfl, rfl, rfl, rfl⟩
def a51 : AFunc := ⟨2, [(.tmp 4)], (.seq (.region [⟨(some 3), (.box (.tmp 1)), none⟩, ⟨(some 4), (.mov (.const (.c (.val (.int .i64 0))))), none⟩])
 (.seq (.region [⟨(some 5), (.mov (.tmp 0)), none⟩, ⟨(some 6), (.mkfn (.func 57) [] [(.tmp 3)]), none⟩, ⟨(some 7), (.call 56 [(.tmp 5), (.tmp 6)]), none⟩, ⟨(some 4), (.mov (.tmp 7)), none⟩])
 .ret))⟩
set_option maxRecDepth 100000 in
theorem c51 : compFunc Tryd.prog 51 = some a51 := by kernel_rfl
def dom_find_post (r : Int) : AV → Heap → Nat → Prop := fun v h' n' => v = (I r) ∧ (h' = (fun _ => none)) ∧ n' = 0
/-- clerestory/dom.find -/
noncomputable def dom_find (l_ : (List TAttr)) (name : (List UInt8)) : Option Int :=
  (slices_IndexFunc_Attr l_ name).bind fun r_ =>
  some r_
theorem dom_find_ok {mL : Int} {l_ : (List TAttr)} {name : (List UInt8)} {r : Int} (h : dom_find l_ name = some r) : CPure Tryd.prog (GG mL) 51 [(.c (.ro false 2 (l_.map e_TAttr))), (S name)] (I r) := by
  refine acalls_of_sv hmix c51 (R := dom_find_post r) ?_
  unfold dom_find at h
  refine Sv.seq ?_
  refine Sv.region ?_
  refine un (a2v (v := (.c (.ref 0 1 0 0))) (h' := upd _ 0 (some (.cells 1 [[.str name]]))) (n' := 1) rfl rfl (fun h => by cases h) ?_)
  refine un (a1 rfl ?_)
  refine dnil ?_
  refine Sv.seq ?_
  refine Sv.region ?_
  refine un (a1 rfl ?_)
  refine un (a1 (v := (.c (.fn (.func 57) [] [.ref 0 1 0 0]))) rfl ?_)
  obtain ⟨r_, hr1, h⟩ := bnd h
  refine un (ac_gen (bs := []) («as» := [(.c (.ro false 2 (l_.map e_TAttr))), (.c (.fn (.func 57) [] [.rop [.str name]]))]) (h2 := (upd _ 0 none)) (h1 := (fun _ => none)) (slices_IndexFunc_Attr_ok hr1) rfl (.cons (avAs_free rfl) (.cons (.c (fn_as .nil (.cons (ref_ro rfl (gone rfl) (.cons (.same rfl) .nil) rfl) .nil))) .nil)) (hsub_none (hsub_refl _)) (.nil _) (fun _ => rfl) (by decide) (by decide) (.cons (avAs_free rfl) (.cons (.c (fn_as .nil (.cons (.same rfl) .nil))) .nil)) .nil ?_)
  rintro _ _ _ hn ⟨rfl, rfl, rfl⟩
  refine ⟨.inr ⟨rfl, .nil⟩, (rem [] _), fun hbd => (m3_rem (in_nil _) (.nil) hbd), (I r_), 1, rfl, rfl, ?_⟩
  refine un (a1 rfl ?_)
  refine dnil ?_
  refine Sv.ret ?_
  replace h := Option.some.inj h
  subst h
  exact ⟨_, .refl _, _, rfl, ⟨upd (fun _ => none) 0 (some (I r_)), (fun _ => none), 0⟩, (I r_), weak_canon [] rfl List.nodup_nil (Nat.le_refl _) (fun b h => absurd h (Nat.not_lt_zero _)) (.cons rfl (avAs_free rfl) .nil) .nil, rfl, rfl, rfl, rfl⟩
def a42_c0 : ACode := (.seq (.region [⟨(some 11), (.bin .lss (.tmp 10) (.tmp 9)), none⟩])
 (.seq (.cond (.tmp 11) .skip (.exit 0))
 (.seq (.block 1 (.seq (.region [⟨(some 12), (.mov (.tmp 10)), none⟩, ⟨(some 13), (.iaddr 2 (.tmp 8) (.tmp 10)), none⟩, ⟨(some 14), (.load true 2 (.tmp 13)), none⟩, ⟨(some 4), (.box (.const (.agg [(.str []), (.str [])]))), none⟩, ⟨(some 3), (.mov (.tmp 12)), none⟩, ⟨none, (.store 2 (.tmp 4) (.tmp 14)), none⟩])
 (.block 2 (.seq (.region [⟨(some 16), (.faddr 0 (.tmp 4)), none⟩, ⟨(some 17), (.load false 1 (.tmp 16)), none⟩, ⟨(some 18), (.call 50 [(.tmp 17)]), none⟩, ⟨(some 19), (.un .not (.tmp 18)), none⟩, ⟨(some 15), (.mov (.tmp 19)), none⟩])
 (.cond (.tmp 15) (.seq (.region [⟨(some 2), (.mov (.const (.c (.val (.int .i64 3))))), none⟩])
 .ret) (.seq (.region [⟨(some 21), (.faddr 1 (.tmp 4)), none⟩, ⟨(some 22), (.load false 1 (.tmp 21)), none⟩, ⟨(some 23), (.lenS (.tmp 22)), none⟩, ⟨(some 24), (.bin .gtr (.tmp 23) (.const (.c (.val (.int .i64 400))))), none⟩, ⟨(some 20), (.mov (.tmp 24)), none⟩])
 (.cond (.tmp 20) (.seq (.region [⟨(some 2), (.mov (.const (.c (.val (.int .i64 2))))), none⟩])
 .ret) (.seq (.drawn (.fin [(⟨(some 26), (.mov (.tmp 0)), none⟩, (0, 0)), (⟨(some 27), (.mov (.tmp 3)), none⟩, (0, 1)), (⟨(some 28), (.slSl 2 (.tmp 26) none (some (.tmp 27)) none), none⟩, (0, 2)), (⟨(some 29), (.faddr 0 (.tmp 4)), none⟩, (0, 3)), (⟨(some 30), (.load false 1 (.tmp 29)), none⟩, (0, 4)), (⟨(some 31), (.call 51 [(.tmp 28), (.tmp 30)]), none⟩, (2, 5)), (⟨(some 32), (.bin .geq (.tmp 31) (.const (.c (.val (.int .i64 0))))), none⟩, (0, 6)), (⟨(some 25), (.mov (.tmp 32)), none⟩, (0, 7))]))
 (.cond (.tmp 25) (.seq (.region [⟨(some 2), (.mov (.const (.c (.val (.int .i64 3))))), none⟩])
 .ret) .skip)))))))))
 (.region [⟨(some 33), (.bin .add (.tmp 10) (.const (.c (.val (.int .i64 1))))), none⟩, ⟨(some 10), (.mov (.tmp 33)), none⟩]))))
def a42 : AFunc := ⟨1, [(.tmp 2)], (.seq (.region [⟨(some 2), (.mov (.const (.c (.val (.int .i64 0))))), none⟩])
 (.seq (.seq (.region [⟨(some 5), (.mov (.tmp 0)), none⟩, ⟨(some 6), (.len (.tmp 5)), none⟩, ⟨(some 7), (.bin .gtr (.tmp 6) (.const (.c (.val (.int .i64 12))))), none⟩])
 (.cond (.tmp 7) (.seq (.region [⟨(some 2), (.mov (.const (.c (.val (.int .i64 2))))), none⟩])
 .ret) .skip))
 (.seq (.seq (.region [⟨(some 8), (.mov (.tmp 0)), none⟩, ⟨(some 9), (.len (.tmp 8)), none⟩, ⟨(some 10), (.mov (.const (.c (.val (.int .i64 0))))), none⟩])
 (.block 0 (.loop a42_c0)))
 (.seq (.region [⟨(some 2), (.mov (.const (.c (.val (.int .i64 0))))), none⟩])
 .ret))))⟩
set_option maxRecDepth 100000 in
theorem c42 : compFunc Tryd.prog 42 = some a42 := by kernel_rfl
def dom_attrs_post (r : Int) : AV → Heap → Nat → Prop := fun v h' n' => v = (I r) ∧ (h' = (fun _ => none)) ∧ n' = 0
abbrev dom_attrs_l0_E0 (F_ : Unit → Option Int) (o : Int) (R_ : St → Prop) : Prop := ∀ (_ : Unit), F_ () = some o → ∀ s, Weak 0 s ⟨(fun _ => none), (fun _ => none), 0⟩ → R_ s
abbrev dom_attrs_l0_I (l_ : (List TAttr)) (F_ : Nat → Int → Option Int) (o : Int) : Nat → St → Prop := fun k s => ∃ (v10 : Int), F_ k v10 = some o ∧ s = ⟨(upd (upd (upd (upd (fun _ => none) 0 (some (.c (.ro false 2 (l_.map e_TAttr))))) 8 (some (.c (.ro false 2 (l_.map e_TAttr))))) 9 (some (I (l_.length : Int)))) 10 (some (I v10))), (fun _ => none), 0⟩
abbrev dom_attrs_l0_H (l_ : (List TAttr)) (F_ : Int → Option Int) (o : Int) (R_ : St → Prop) : Prop := ∀ (v10 : Int), F_ v10 = some o → ∀ s, Weak 0 s ⟨(upd (upd (upd (upd (fun _ => none) 0 (some (.c (.ro false 2 (l_.map e_TAttr))))) 8 (some (.c (.ro false 2 (l_.map e_TAttr))))) 9 (some (I (l_.length : Int)))) 10 (some (I v10))), (fun _ => none), 0⟩ → R_ s
noncomputable def dom_attrs_l0 (l_ : (List TAttr)) (K0_ : Unit → Option Int) : Nat → Int → Option Int
  | 0, _ => none
  | k + 1, v10 =>
    if decide (v10 < (l_.length : Int)) then
      (at? l_ v10).bind fun x_ =>
      (dom_attrName x_.Name).bind fun r_ =>
      if (!r_) then
        some 3
      else
        if decide (400 < (x_.Value.length : Int)) then
          some 2
        else
          (sub? l_ 0 v10).bind fun r_1 =>
          (dom_find r_1 x_.Name).bind fun r_2 =>
          if decide (0 ≤ r_2) then
            some 3
          else
            (dom_attrs_l0 l_ K0_ k) (wi (v10 + 1))
    else
      K0_ ()
theorem dom_attrs_l0_ok {mL : Int} {Q : AExit → St → Prop} {l_ : (List TAttr)} {K0_ : Unit → Option Int} {k : Nat} {v10 : Int} {o : Int} (h : dom_attrs_l0 l_ K0_ k v10 = some o)
    (hK0 : dom_attrs_l0_E0 K0_ o (Q (.exit 0)))
    (hr : ∀ s, Ends a42.results 0 (dom_attrs_post o) .ret s → Q .ret s) :
    Sv Tryd.prog (GG mL) 0 (.loop a42_c0) Q ⟨(upd (upd (upd (upd (fun _ => none) 0 (some (.c (.ro false 2 (l_.map e_TAttr))))) 8 (some (.c (.ro false 2 (l_.map e_TAttr))))) 9 (some (I (l_.length : Int)))) 10 (some (I v10))), (fun _ => none), 0⟩ := by
  refine Sv.loop (I := dom_attrs_l0_I l_ (dom_attrs_l0 l_ K0_) o) (fun k s hI => ?_) ⟨v10, h, rfl⟩
  clear h
  clear v10
  obtain ⟨v10, h, rfl⟩ := hI
  cases k with
  | zero => cases h
  | succ k =>
  rw [dom_attrs_l0] at h
  have hself : dom_attrs_l0_H l_ (dom_attrs_l0 l_ K0_ k) o (rnd 0 (dom_attrs_l0_I l_ (dom_attrs_l0 l_ K0_) o) k Q) := fun v10 h s hw => ⟨_, k, hw, Nat.lt_succ_self k, v10, h, rfl⟩
  refine Sv.seq ?_
  refine Sv.region ?_
  refine un (a1 (v := (B (decide (v10 < (l_.length : Int))))) rfl ?_)
  refine dnil ?_
  refine Sv.seq ?_
  refine Sv.cond (b := decide (v10 < (l_.length : Int))) rfl (fun hc2 => ?_) (fun hc2 => ?_)
  · replace h := ifT hc2 h
    refine Sv.skip ?_
    refine Sv.seq ?_
    refine Sv.block ?_
    refine Sv.seq ?_
    refine Sv.region ?_
    refine un (a1 rfl ?_)
    obtain ⟨x_, hx1, h⟩ := bnd h
    refine un (a1 (v := (.c (.rop [.str x_.Name, .str x_.Value]))) (s_iaddr (e := e_TAttr) (xs := l_) rfl rfl hx1) ?_)
    refine un (a1 (v := (.agg [.str x_.Name, .str x_.Value])) rfl ?_)
    refine un (a2v (v := (.c (.ref 0 2 0 0))) (h' := upd _ 0 (some (.cells 2 [[.str [], .str []]]))) (n' := 1) rfl rfl (fun h => by cases h) ?_)
    refine un (a1 rfl ?_)
    refine un (a2n (h' := upd _ 0 (some (.cells 2 [[.str x_.Name, .str x_.Value]]))) (n' := 1) rfl rfl (fun h => by cases h) ?_)
    refine dnil ?_
    refine Sv.block ?_
    refine Sv.seq ?_
    refine Sv.region ?_
    refine un (a1 (v := (.c (.ref 0 2 0 0))) rfl ?_)
    refine un (a1 (v := (S x_.Name)) rfl ?_)
    obtain ⟨r_, hr1, h⟩ := bnd h
    refine un (ac_pure (dom_attrName_ok hr1) rfl rfl rfl ?_)
    refine un (a1 (v := (B (!r_))) rfl ?_)
    refine un (a1 rfl ?_)
    refine dnil ?_
    refine Sv.cond (b := (!r_)) rfl (fun hc3 => ?_) (fun hc3 => ?_)
    · replace h := ifT hc3 h
      refine Sv.seq ?_
      refine Sv.region ?_
      refine un (a1 rfl ?_)
      refine dnil ?_
      refine Sv.ret ?_
      replace h := Option.some.inj h
      subst h
      exact hr _ ⟨_, .refl _, _, rfl, ⟨upd (fun _ => none) 0 (some (I 3)), (fun _ => none), 0⟩, (I 3), weak_canon [] rfl List.nodup_nil (Nat.le_refl _) (fun b h => absurd h (Nat.not_lt_zero _)) (.cons rfl (avAs_free rfl) .nil) .nil, rfl, rfl, rfl, rfl⟩
    · replace h := ifF hc3 h
      refine Sv.seq ?_
      refine Sv.region ?_
      refine un (a1 (v := (.c (.ref 0 2 0 1))) rfl ?_)
      refine un (a1 (v := (S x_.Value)) rfl ?_)
      refine un (a1 (v := (I (x_.Value.length : Int))) rfl ?_)
      refine un (a1 (v := (B (decide (400 < (x_.Value.length : Int))))) rfl ?_)
      refine un (a1 rfl ?_)
      refine dnil ?_
      refine Sv.cond (b := decide (400 < (x_.Value.length : Int))) rfl (fun hc4 => ?_) (fun hc4 => ?_)
      · replace h := ifT hc4 h
        refine Sv.seq ?_
        refine Sv.region ?_
        refine un (a1 rfl ?_)
        refine dnil ?_
        refine Sv.ret ?_
        replace h := Option.some.inj h
        subst h
        exact hr _ ⟨_, .refl _, _, rfl, ⟨upd (fun _ => none) 0 (some (I 2)), (fun _ => none), 0⟩, (I 2), weak_canon [] rfl List.nodup_nil (Nat.le_refl _) (fun b h => absurd h (Nat.not_lt_zero _)) (.cons rfl (avAs_free rfl) .nil) .nil, rfl, rfl, rfl, rfl⟩
      · replace h := ifF hc4 h
        refine Sv.seq ?_
        refine Sv.drawn ?_
        refine un (a1 rfl ?_)
        refine un (a1 rfl ?_)
        obtain ⟨r_1, hx2, h⟩ := bnd h
        refine un (a1 (v := (.c (.ro false 2 (r_1.map e_TAttr)))) (s_slSl (e := e_TAttr) rfl rfl rfl hx2) ?_)
        refine un (a1 (v := (.c (.ref 0 2 0 0))) rfl ?_)
        refine un (a1 (v := (S x_.Name)) rfl ?_)
        obtain ⟨r_2, hr2, h⟩ := bnd h
        refine un (ac_pure (dom_find_ok hr2) rfl rfl rfl ?_)
        refine un (a1 (v := (B (decide (0 ≤ r_2)))) rfl ?_)
        refine un (a1 rfl ?_)
        refine dnil ?_
        refine Sv.cond (b := decide (0 ≤ r_2)) rfl (fun hc5 => ?_) (fun hc5 => ?_)
        · replace h := ifT hc5 h
          refine Sv.seq ?_
          refine Sv.region ?_
          refine un (a1 rfl ?_)
          refine dnil ?_
          refine Sv.ret ?_
          replace h := Option.some.inj h
          subst h
          exact hr _ ⟨_, .refl _, _, rfl, ⟨upd (fun _ => none) 0 (some (I 3)), (fun _ => none), 0⟩, (I 3), weak_canon [] rfl List.nodup_nil (Nat.le_refl _) (fun b h => absurd h (Nat.not_lt_zero _)) (.cons rfl (avAs_free rfl) .nil) .nil, rfl, rfl, rfl, rfl⟩
        · replace h := ifF hc5 h
          refine Sv.skip ?_
          refine Sv.region ?_
          refine un (a1 (v := (I (wi (v10 + 1)))) rfl ?_)
          refine un (a1 rfl ?_)
          refine dnil ?_
          exact hself (wi (v10 + 1)) h _ (weak_canon [] rfl (by decide) (by decide) (fun b h => absurd h (Nat.not_lt_zero _)) (.cons rfl (avAs_free rfl) (.cons rfl (avAs_free rfl) (.cons rfl (avAs_free rfl) (.cons rfl (avAs_free rfl) .nil)))) .nil)
  · replace h := ifF hc2 h
    refine Sv.exit ?_
    exact hK0 () h _ (weak_canon [] rfl (by decide) (by decide) (fun b h => absurd h (Nat.not_lt_zero _)) .nil .nil)
/-- clerestory/dom.attrs -/
noncomputable def dom_attrs (l_ : (List TAttr)) : Option Int :=
  if decide (12 < (l_.length : Int)) then
    some 2
  else
    lim fun kk => dom_attrs_l0 l_ (fun (_ : Unit) => 
        some 0) kk 0
theorem dom_attrs_ok {mL : Int} {l_ : (List TAttr)} {r : Int} (h : dom_attrs l_ = some r) : CPure Tryd.prog (GG mL) 42 [(.c (.ro false 2 (l_.map e_TAttr)))] (I r) := by
  refine acalls_of_sv hmix c42 (R := dom_attrs_post r) ?_
  unfold dom_attrs at h
  refine Sv.seq ?_
  refine Sv.region ?_
  refine un (a1 rfl ?_)
  refine dnil ?_
  refine Sv.seq ?_
  refine Sv.seq ?_
  refine Sv.region ?_
  refine un (a1 rfl ?_)
  refine un (a1 (v := (I (l_.length : Int))) (s_len (e := e_TAttr) (xs := l_) rfl) ?_)
  refine un (a1 (v := (B (decide (12 < (l_.length : Int))))) rfl ?_)
  refine dnil ?_
  refine Sv.cond (b := decide (12 < (l_.length : Int))) rfl (fun hc1 => ?_) (fun hc1 => ?_)
  · replace h := ifT hc1 h
    refine Sv.seq ?_
    refine Sv.region ?_
    refine un (a1 rfl ?_)
    refine dnil ?_
    refine Sv.ret ?_
    replace h := Option.some.inj h
    subst h
    exact ⟨_, .refl _, _, rfl, ⟨upd (fun _ => none) 0 (some (I 2)), (fun _ => none), 0⟩, (I 2), weak_canon [] rfl List.nodup_nil (Nat.le_refl _) (fun b h => absurd h (Nat.not_lt_zero _)) (.cons rfl (avAs_free rfl) .nil) .nil, rfl, rfl, rfl, rfl⟩
  · replace h := ifF hc1 h
    refine Sv.skip ?_
    refine Sv.seq ?_
    refine Sv.seq ?_
    refine Sv.region ?_
    refine un (a1 rfl ?_)
    refine un (a1 (v := (I (l_.length : Int))) (s_len (e := e_TAttr) (xs := l_) rfl) ?_)
    refine un (a1 rfl ?_)
    refine dnil ?_
    refine Sv.block ?_
    obtain ⟨kk, h⟩ := lim_some h
    refine Sv.weak (weak_canon [] rfl (by decide) (by decide) (fun b h => absurd h (Nat.not_lt_zero _)) (.cons rfl (avAs_free rfl) (.cons rfl (avAs_free rfl) (.cons rfl (avAs_free rfl) (.cons rfl (avAs_free rfl) .nil)))) .nil) (dom_attrs_l0_ok h ?_ (fun s hs => hs))
    · intro _ h _ hw1
      refine Sv.weak hw1 ?_
      refine Sv.seq ?_
      refine Sv.region ?_
      refine un (a1 rfl ?_)
      refine dnil ?_
      refine Sv.ret ?_
      replace h := Option.some.inj h
      subst h
      exact ⟨_, .refl _, _, rfl, ⟨upd (fun _ => none) 0 (some (I 0)), (fun _ => none), 0⟩, (I 0), weak_canon [] rfl List.nodup_nil (Nat.le_refl _) (fun b h => absurd h (Nat.not_lt_zero _)) (.cons rfl (avAs_free rfl) .nil) .nil, rfl, rfl, rfl, rfl⟩
def a28_c0 : ACode := (.cond (.tmp 18) (.seq (.region [⟨(some 2), (.mov (.const (.c (.val (.int .i64 3))))), none⟩])
 .ret) .skip)
def a28_c1 : ACode := (.seq (.seq (.region [⟨(some 28), (.faddr 2 (.tmp 1)), none⟩, ⟨(some 29), (.load false 1 (.tmp 28)), none⟩, ⟨(some 30), (.call 42 [(.tmp 29)]), none⟩, ⟨(some 3), (.mov (.tmp 30)), none⟩])
 (.seq (.region [⟨(some 31), (.mov (.tmp 3)), none⟩, ⟨(some 32), (.bin .neq (.tmp 31) (.const (.c (.val (.int .i64 0))))), none⟩])
 (.cond (.tmp 32) (.seq (.region [⟨(some 33), (.mov (.tmp 3)), none⟩, ⟨(some 2), (.mov (.tmp 33)), none⟩])
 .ret) .skip)))
 (.seq (.seq (.region [⟨(some 34), (.faddr 3 (.tmp 1)), none⟩, ⟨(some 35), (.load false 1 (.tmp 34)), none⟩, ⟨(some 36), (.lenS (.tmp 35)), none⟩, ⟨(some 37), (.bin .gtr (.tmp 36) (.const (.c (.val (.int .i64 400))))), none⟩, ⟨(some 38), (.mov (.tmp 37)), none⟩, ⟨(some 39), (.faddr 1 (.tmp 1)), (some (38, false))⟩, ⟨(some 40), (.load false 1 (.tmp 39)), (some (38, false))⟩, ⟨(some 41), (.lenS (.tmp 40)), (some (38, false))⟩, ⟨(some 42), (.bin .gtr (.tmp 41) (.const (.c (.val (.int .i64 400))))), (some (38, false))⟩, ⟨(some 43), (.pick (.tmp 38) (.const (.c (.val (.bool true)))) (.tmp 42)), none⟩])
 (.cond (.tmp 43) (.seq (.region [⟨(some 2), (.mov (.const (.c (.val (.int .i64 2))))), none⟩])
 .ret) .skip))
 (.seq (.region [⟨(some 2), (.mov (.const (.c (.val (.int .i64 0))))), none⟩])
 .ret)))
def a28 : AFunc := ⟨1, [(.tmp 2)], (.seq (.region [⟨(some 1), (.box (.tmp 0)), none⟩, ⟨(some 2), (.mov (.const (.c (.val (.int .i64 0))))), none⟩])
 (.seq (.block 0 (.seq (.region [⟨(some 5), (.faddr 0 (.tmp 1)), none⟩, ⟨(some 6), (.load false 1 (.tmp 5)), none⟩, ⟨(some 7), (.bin .lss (.tmp 6) (.const (.c (.val (.int .i64 1))))), none⟩, ⟨(some 8), (.mov (.tmp 7)), none⟩, ⟨(some 9), (.faddr 0 (.tmp 1)), (some (8, false))⟩, ⟨(some 10), (.load false 1 (.tmp 9)), (some (8, false))⟩, ⟨(some 11), (.bin .gtr (.tmp 10) (.const (.c (.val (.int .i64 5))))), (some (8, false))⟩, ⟨(some 12), (.pick (.tmp 8) (.const (.c (.val (.bool true)))) (.tmp 11)), none⟩, ⟨(some 13), (.mov (.tmp 12)), none⟩, ⟨(some 14), (.load true 6 (.tmp 1)), (some (13, false))⟩, ⟨(some 15), (.call 40 [(.tmp 14)]), (some (13, false))⟩, ⟨(some 16), (.un .not (.tmp 15)), (some (13, false))⟩, ⟨(some 17), (.pick (.tmp 13) (.const (.c (.val (.bool true)))) (.tmp 16)), none⟩, ⟨(some 4), (.mov (.tmp 17)), none⟩])
 (.cond (.tmp 4) (.seq (.region [⟨(some 2), (.mov (.const (.c (.val (.int .i64 7))))), none⟩])
 .ret) (.seq (.region [⟨(some 19), (.faddr 0 (.tmp 1)), none⟩, ⟨(some 20), (.load false 1 (.tmp 19)), none⟩, ⟨(some 21), (.bin .eql (.tmp 20) (.const (.c (.val (.int .i64 2))))), none⟩, ⟨(some 22), (.mov (.tmp 21)), none⟩, ⟨(some 23), (.faddr 1 (.tmp 1)), (some (22, true))⟩, ⟨(some 24), (.load false 1 (.tmp 23)), (some (22, true))⟩, ⟨(some 25), (.call 41 [(.tmp 24)]), (some (22, true))⟩, ⟨(some 26), (.un .not (.tmp 25)), (some (22, true))⟩, ⟨(some 27), (.pick (.tmp 22) (.tmp 26) (.const (.c (.val (.bool false))))), none⟩, ⟨(some 18), (.mov (.tmp 27)), none⟩])
 a28_c0))))
 a28_c1))⟩
set_option maxRecDepth 100000 in
theorem c28 : compFunc Tryd.prog 28 = some a28 := by kernel_rfl
def dom_one_post (r : Int) : AV → Heap → Nat → Prop := fun v h' n' => v = (I r) ∧ (h' = (fun _ => none)) ∧ n' = 0
abbrev dom_one_q0 (mL : Int) (o : Int) : AExit → St → Prop := AThen (Sv Tryd.prog (GG mL) 0 a28_c1 (Ends a28.results 0 (dom_one_post o))) (Ends a28.results 0 (dom_one_post o))
abbrev dom_one_q1 (mL : Int) (o : Int) : AExit → St → Prop := ABlock 0 (dom_one_q0 mL o)
noncomputable def dom_one_j1 (x_ : TNode) (v18 : Bool) : Option Int :=
  if v18 then
    some 3
  else
    (dom_attrs x_.Attrs).bind fun r_ =>
    if (!decide (r_ = 0)) then
      some r_
    else
      if ((decide (400 < (x_.Text.length : Int))) || (decide (400 < (x_.Name.length : Int)))) then
        some 2
      else
        some 0
theorem dom_one_j1_ok {mL : Int} {x_ : TNode} {v18 : Bool} {o : Int} (h : dom_one_j1 x_ v18 = some o) :
    Sv Tryd.prog (GG mL) 0 a28_c0 (dom_one_q1 mL o) ⟨(upd (upd (fun _ => none) 1 (some (.c (.ref 0 6 0 0)))) 18 (some (B v18))), (upd (fun _ => none) 0 (some (.cells 6 [[cI x_.Kind, .str x_.Name, .ro false 2 (x_.Attrs.map e_TAttr), .str x_.Text, cI x_.Parent, .ro false 1 (x_.Kids.map eI)]]))), 1⟩ := by
  unfold dom_one_j1 at h
  refine Sv.cond (b := v18) rfl (fun hc4 => ?_) (fun hc4 => ?_)
  · replace h := ifT hc4 h
    refine Sv.seq ?_
    refine Sv.region ?_
    refine un (a1 rfl ?_)
    refine dnil ?_
    refine Sv.ret ?_
    replace h := Option.some.inj h
    subst h
    exact ⟨_, .refl _, _, rfl, ⟨upd (fun _ => none) 0 (some (I 3)), (fun _ => none), 0⟩, (I 3), weak_canon [] rfl List.nodup_nil (Nat.le_refl _) (fun b h => absurd h (Nat.not_lt_zero _)) (.cons rfl (avAs_free rfl) .nil) .nil, rfl, rfl, rfl, rfl⟩
  · replace h := ifF hc4 h
    refine Sv.skip ?_
    refine Sv.seq ?_
    refine Sv.seq ?_
    refine Sv.region ?_
    refine un (a1 (v := (.c (.ref 0 6 0 2))) rfl ?_)
    refine un (a1 (v := (.c (.ro false 2 (x_.Attrs.map e_TAttr)))) rfl ?_)
    obtain ⟨r_, hr1, h⟩ := bnd h
    refine un (ac_pure (dom_attrs_ok hr1) rfl rfl rfl ?_)
    refine un (a1 rfl ?_)
    refine dnil ?_
    refine Sv.seq ?_
    refine Sv.region ?_
    refine un (a1 rfl ?_)
    refine un (a1 (v := (B (!decide (r_ = 0)))) rfl ?_)
    refine dnil ?_
    refine Sv.cond (b := (!decide (r_ = 0))) rfl (fun hc5 => ?_) (fun hc5 => ?_)
    · replace h := ifT hc5 h
      refine Sv.seq ?_
      refine Sv.region ?_
      refine un (a1 rfl ?_)
      refine un (a1 rfl ?_)
      refine dnil ?_
      refine Sv.ret ?_
      replace h := Option.some.inj h
      subst h
      exact ⟨_, .refl _, _, rfl, ⟨upd (fun _ => none) 0 (some (I r_)), (fun _ => none), 0⟩, (I r_), weak_canon [] rfl List.nodup_nil (Nat.le_refl _) (fun b h => absurd h (Nat.not_lt_zero _)) (.cons rfl (avAs_free rfl) .nil) .nil, rfl, rfl, rfl, rfl⟩
    · replace h := ifF hc5 h
      refine Sv.skip ?_
      refine Sv.seq ?_
      refine Sv.seq ?_
      refine Sv.region ?_
      refine un (a1 (v := (.c (.ref 0 6 0 3))) rfl ?_)
      refine un (a1 (v := (S x_.Text)) rfl ?_)
      refine un (a1 (v := (I (x_.Text.length : Int))) rfl ?_)
      refine un (a1 (v := (B (decide (400 < (x_.Text.length : Int))))) rfl ?_)
      refine un (a1 rfl ?_)
      refine gjoin 5 (d := 43) (v := (B ((decide (400 < (x_.Text.length : Int))) || (decide (400 < (x_.Name.length : Int)))))) (fun X hX => ?_) ?_
      · refine split2 (fun hc6 => ?_) (fun hc6 => ?_)
        · refine gs rfl rfl ?_
          refine gs rfl rfl ?_
          refine gs rfl rfl ?_
          refine gs rfl rfl ?_
          refine un (a1 (v := (B true)) rfl ?_)
          refine dnil ?_
          exact hX _ (.putEq (by rw [hc6]; rfl) (.skip _ _ (.skip _ _ (.skip _ _ (.skip _ _ (.putEq (by rw [hc6]) (.refl _)) rfl) rfl) rfl) rfl))
        · refine gt rfl (a1 (v := (.c (.ref 0 6 0 1))) rfl ?_)
          refine gt rfl (a1 (v := (S x_.Name)) rfl ?_)
          refine gt rfl (a1 (v := (I (x_.Name.length : Int))) rfl ?_)
          refine gt rfl (a1 (v := (B (decide (400 < (x_.Name.length : Int))))) rfl ?_)
          refine un (a1 (v := (B (decide (400 < (x_.Name.length : Int))))) rfl ?_)
          refine dnil ?_
          exact hX _ (.putEq (by rw [hc6]; rfl) (.skip _ _ (.skip _ _ (.skip _ _ (.skip _ _ (.putEq (by rw [hc6]) (.refl _)) rfl) rfl) rfl) rfl))
      refine dnil ?_
      refine Sv.cond (b := ((decide (400 < (x_.Text.length : Int))) || (decide (400 < (x_.Name.length : Int))))) rfl (fun hc7 => ?_) (fun hc7 => ?_)
      · replace h := ifT hc7 h
        refine Sv.seq ?_
        refine Sv.region ?_
        refine un (a1 rfl ?_)
        refine dnil ?_
        refine Sv.ret ?_
        replace h := Option.some.inj h
        subst h
        exact ⟨_, .refl _, _, rfl, ⟨upd (fun _ => none) 0 (some (I 2)), (fun _ => none), 0⟩, (I 2), weak_canon [] rfl List.nodup_nil (Nat.le_refl _) (fun b h => absurd h (Nat.not_lt_zero _)) (.cons rfl (avAs_free rfl) .nil) .nil, rfl, rfl, rfl, rfl⟩
      · replace h := ifF hc7 h
        refine Sv.skip ?_
        refine Sv.seq ?_
        refine Sv.region ?_
        refine un (a1 rfl ?_)
        refine dnil ?_
        refine Sv.ret ?_
        replace h := Option.some.inj h
        subst h
        exact ⟨_, .refl _, _, rfl, ⟨upd (fun _ => none) 0 (some (I 0)), (fun _ => none), 0⟩, (I 0), weak_canon [] rfl List.nodup_nil (Nat.le_refl _) (fun b h => absurd h (Nat.not_lt_zero _)) (.cons rfl (avAs_free rfl) .nil) .nil, rfl, rfl, rfl, rfl⟩
/-- clerestory/dom.one -/
noncomputable def dom_one (x_ : TNode) : Option Int :=
  if (((decide (x_.Kind < 1)) || (decide (5 < x_.Kind))) || (!(dom_bare x_))) then
    some 7
  else
    if decide (x_.Kind = 2) then
      (dom_Name x_.Name).bind fun r_1 =>
      dom_one_j1 x_ (!r_1)
    else
      dom_one_j1 x_ false
theorem dom_one_ok {mL : Int} {x_ : TNode} {r : Int} (h : dom_one x_ = some r) : CPure Tryd.prog (GG mL) 28 [(.agg [cI x_.Kind, .str x_.Name, .ro false 2 (x_.Attrs.map e_TAttr), .str x_.Text, cI x_.Parent, .ro false 1 (x_.Kids.map eI)])] (I r) := by
  refine acalls_of_sv hmix c28 (R := dom_one_post r) ?_
  unfold dom_one at h
  refine Sv.seq ?_
  refine Sv.region ?_
  refine un (a2v (v := (.c (.ref 0 6 0 0))) (h' := upd _ 0 (some (.cells 6 [[cI x_.Kind, .str x_.Name, .ro false 2 (x_.Attrs.map e_TAttr), .str x_.Text, cI x_.Parent, .ro false 1 (x_.Kids.map eI)]]))) (n' := 1) rfl rfl (fun h => by cases h) ?_)
  refine un (a1 rfl ?_)
  refine dnil ?_
  refine Sv.seq ?_
  refine Sv.block ?_
  refine Sv.seq ?_
  refine Sv.region ?_
  refine un (a1 (v := (.c (.ref 0 6 0 0))) rfl ?_)
  refine un (a1 (v := (I x_.Kind)) rfl ?_)
  refine un (a1 (v := (B (decide (x_.Kind < 1)))) rfl ?_)
  refine un (a1 rfl ?_)
  refine gjoin 4 (d := 12) (v := (B ((decide (x_.Kind < 1)) || (decide (5 < x_.Kind))))) (fun X hX => ?_) ?_
  · refine split2 (fun hc1 => ?_) (fun hc1 => ?_)
    · refine gs rfl rfl ?_
      refine gs rfl rfl ?_
      refine gs rfl rfl ?_
      refine un (a1 (v := (B true)) rfl ?_)
      refine dnil ?_
      exact hX _ (.putEq (by rw [hc1]; rfl) (.skip _ _ (.skip _ _ (.skip _ _ (.putEq (by rw [hc1]) (.refl _)) rfl) rfl) rfl))
    · refine gt rfl (a1 (v := (.c (.ref 0 6 0 0))) rfl ?_)
      refine gt rfl (a1 (v := (I x_.Kind)) rfl ?_)
      refine gt rfl (a1 (v := (B (decide (5 < x_.Kind)))) rfl ?_)
      refine un (a1 (v := (B (decide (5 < x_.Kind)))) rfl ?_)
      refine dnil ?_
      exact hX _ (.putEq (by rw [hc1]; rfl) (.skip _ _ (.skip _ _ (.skip _ _ (.putEq (by rw [hc1]) (.refl _)) rfl) rfl) rfl))
  refine un (a1 rfl ?_)
  refine gjoin 4 (d := 17) (v := (B (((decide (x_.Kind < 1)) || (decide (5 < x_.Kind))) || (!(dom_bare x_))))) (fun X hX => ?_) ?_
  · refine split2 (fun hc2 => ?_) (fun hc2 => ?_)
    · refine gs rfl rfl ?_
      refine gs rfl rfl ?_
      refine gs rfl rfl ?_
      refine un (a1 (v := (B true)) rfl ?_)
      refine dnil ?_
      exact hX _ (.putEq (by rw [hc2]; rfl) (.skip _ _ (.skip _ _ (.skip _ _ (.putEq (by rw [hc2]) (.refl _)) rfl) rfl) rfl))
    · refine gt rfl (a1 (v := (.agg [cI x_.Kind, .str x_.Name, .ro false 2 (x_.Attrs.map e_TAttr), .str x_.Text, cI x_.Parent, .ro false 1 (x_.Kids.map eI)])) rfl ?_)
      refine gt rfl (ac_pure (dom_bare_ok (mL := mL) x_) rfl rfl rfl ?_)
      refine gt rfl (a1 (v := (B (!(dom_bare x_)))) rfl ?_)
      refine un (a1 (v := (B (!(dom_bare x_)))) rfl ?_)
      refine dnil ?_
      exact hX _ (.putEq (by rw [hc2]; rfl) (.skip _ _ (.skip _ _ (.skip _ _ (.putEq (by rw [hc2]) (.refl _)) rfl) rfl) rfl))
  refine un (a1 rfl ?_)
  refine dnil ?_
  refine Sv.cond (b := (((decide (x_.Kind < 1)) || (decide (5 < x_.Kind))) || (!(dom_bare x_)))) rfl (fun hc3 => ?_) (fun hc3 => ?_)
  · replace h := ifT hc3 h
    refine Sv.seq ?_
    refine Sv.region ?_
    refine un (a1 rfl ?_)
    refine dnil ?_
    refine Sv.ret ?_
    replace h := Option.some.inj h
    subst h
    exact ⟨_, .refl _, _, rfl, ⟨upd (fun _ => none) 0 (some (I 7)), (fun _ => none), 0⟩, (I 7), weak_canon [] rfl List.nodup_nil (Nat.le_refl _) (fun b h => absurd h (Nat.not_lt_zero _)) (.cons rfl (avAs_free rfl) .nil) .nil, rfl, rfl, rfl, rfl⟩
  · replace h := ifF hc3 h
    refine Sv.seq ?_
    refine Sv.region ?_
    refine un (a1 (v := (.c (.ref 0 6 0 0))) rfl ?_)
    refine un (a1 (v := (I x_.Kind)) rfl ?_)
    refine un (a1 (v := (B (decide (x_.Kind = 2)))) rfl ?_)
    refine un (a1 rfl ?_)
    refine split2 (fun hc8 => ?_) (fun hc8 => ?_)
    · replace h := ifT hc8 h
      refine gt rfl (a1 (v := (.c (.ref 0 6 0 1))) rfl ?_)
      refine gt rfl (a1 (v := (S x_.Name)) rfl ?_)
      obtain ⟨r_1, hr2, h⟩ := bnd h
      refine gt rfl (ac_pure (dom_Name_ok hr2) rfl rfl rfl ?_)
      refine gt rfl (a1 (v := (B (!r_1))) rfl ?_)
      refine un (a1 (v := (B (!r_1))) rfl ?_)
      refine un (a1 rfl ?_)
      refine dnil ?_
      exact Sv.weak (weak_canon [0] rfl (by decide) (by decide) (fun b h => absurd h (Nat.not_lt_zero _)) (.cons rfl (avAs_free rfl) (.cons rfl (.c (.ref rfl (by decide))) .nil)) (.box (by decide) rfl (blkAs_cells (.cons (.same rfl) (.cons (.same rfl) (.cons (.same rfl) (.cons (.same rfl) (.cons (.same rfl) (.cons (.same rfl) .nil))))))) .nil)) (dom_one_j1_ok h)
    · replace h := ifF hc8 h
      refine gs rfl rfl ?_
      refine gs rfl rfl ?_
      refine gs rfl rfl ?_
      refine gs rfl rfl ?_
      refine un (a1 (v := (B false)) rfl ?_)
      refine un (a1 rfl ?_)
      refine dnil ?_
      exact Sv.weak (weak_canon [0] rfl (by decide) (by decide) (fun b h => absurd h (Nat.not_lt_zero _)) (.cons rfl (avAs_free rfl) (.cons rfl (.c (.ref rfl (by decide))) .nil)) (.box (by decide) rfl (blkAs_cells (.cons (.same rfl) (.cons (.same rfl) (.cons (.same rfl) (.cons (.same rfl) (.cons (.same rfl) (.cons (.same rfl) .nil))))))) .nil)) (dom_one_j1_ok h)
def a29_c1 : ACode := (.cond (.tmp 54) (.seq (.region [⟨(some 2), (.mov (.const (.c (.val (.int .i64 7))))), none⟩])
 .ret) .skip)
def a29_c0 : ACode := (.cond (.tmp 29) (.seq (.region [⟨(some 2), (.mov (.const (.c (.val (.int .i64 3))))), none⟩])
 .ret) (.seq (.region [⟨(some 55), (.mov (.tmp 4)), none⟩, ⟨(some 56), (.bin .eql (.tmp 55) (.const (.c (.val (.int .i64 0))))), none⟩, ⟨(some 57), (.mov (.tmp 56)), none⟩, ⟨(some 58), (.faddr 0 (.tmp 1)), (some (57, true))⟩, ⟨(some 59), (.load false 1 (.tmp 58)), (some (57, true))⟩, ⟨(some 60), (.mov (.tmp 7)), (some (57, true))⟩, ⟨(some 61), (.iaddr 6 (.tmp 59) (.tmp 60)), (some (57, true))⟩, ⟨(some 62), (.faddr 0 (.tmp 61)), (some (57, true))⟩, ⟨(some 63), (.load false 1 (.tmp 62)), (some (57, true))⟩, ⟨(some 64), (.bin .eql (.tmp 63) (.const (.c (.val (.int .i64 3))))), (some (57, true))⟩, ⟨(some 65), (.pick (.tmp 57) (.tmp 64) (.const (.c (.val (.bool false))))), none⟩, ⟨(some 54), (.mov (.tmp 65)), none⟩])
 a29_c1))
def a29_c3 : ACode := (.region [⟨(some 66), (.mov (.tmp 3)), none⟩, ⟨(some 67), (.mov (.tmp 7)), none⟩, ⟨(some 68), (.iaddr 1 (.tmp 66) (.tmp 67)), none⟩, ⟨none, (.store 1 (.tmp 68) (.const (.c (.val (.bool true))))), none⟩])
def a29_c2 : ACode := (.region [⟨(some 69), (.bin .add (.tmp 25) (.const (.c (.val (.int .i64 1))))), none⟩, ⟨(some 25), (.mov (.tmp 69)), none⟩])
def a29_c4 : ACode := (.seq (.region [⟨(some 26), (.bin .lss (.tmp 25) (.tmp 24)), none⟩])
 (.seq (.cond (.tmp 26) .skip (.exit 2))
 (.seq (.block 3 (.seq (.region [⟨(some 27), (.iaddr 1 (.tmp 23) (.tmp 25)), none⟩, ⟨(some 28), (.load false 1 (.tmp 27)), none⟩, ⟨(some 7), (.mov (.tmp 28)), none⟩])
 (.seq (.block 4 (.seq (.region [⟨(some 30), (.mov (.tmp 7)), none⟩, ⟨(some 31), (.bin .lss (.tmp 30) (.const (.c (.val (.int .i64 0))))), none⟩, ⟨(some 32), (.mov (.tmp 31)), none⟩, ⟨(some 33), (.mov (.tmp 7)), (some (32, false))⟩, ⟨(some 34), (.mov (.tmp 3)), (some (32, false))⟩, ⟨(some 35), (.len (.tmp 34)), (some (32, false))⟩, ⟨(some 36), (.bin .geq (.tmp 33) (.tmp 35)), (some (32, false))⟩, ⟨(some 37), (.pick (.tmp 32) (.const (.c (.val (.bool true)))) (.tmp 36)), none⟩, ⟨(some 38), (.mov (.tmp 37)), none⟩, ⟨(some 39), (.faddr 0 (.tmp 1)), (some (38, false))⟩, ⟨(some 40), (.load false 1 (.tmp 39)), (some (38, false))⟩, ⟨(some 41), (.mov (.tmp 7)), (some (38, false))⟩, ⟨(some 42), (.iaddr 6 (.tmp 40) (.tmp 41)), (some (38, false))⟩, ⟨(some 43), (.faddr 4 (.tmp 42)), (some (38, false))⟩, ⟨(some 44), (.load false 1 (.tmp 43)), (some (38, false))⟩, ⟨(some 45), (.mov (.tmp 4)), (some (38, false))⟩, ⟨(some 46), (.bin .neq (.tmp 44) (.tmp 45)), (some (38, false))⟩, ⟨(some 47), (.pick (.tmp 38) (.const (.c (.val (.bool true)))) (.tmp 46)), none⟩, ⟨(some 48), (.mov (.tmp 47)), none⟩, ⟨(some 49), (.mov (.tmp 3)), (some (48, false))⟩, ⟨(some 50), (.mov (.tmp 7)), (some (48, false))⟩, ⟨(some 51), (.iaddr 1 (.tmp 49) (.tmp 50)), (some (48, false))⟩, ⟨(some 52), (.load false 1 (.tmp 51)), (some (48, false))⟩, ⟨(some 53), (.pick (.tmp 48) (.const (.c (.val (.bool true)))) (.tmp 52)), none⟩, ⟨(some 29), (.mov (.tmp 53)), none⟩])
 a29_c0))
 a29_c3)))
 a29_c2)))
def a29_c5 : ACode := (.seq (.region [⟨(some 18), (.bin .lss (.tmp 17) (.tmp 16)), none⟩])
 (.seq (.cond (.tmp 18) .skip (.exit 0))
 (.seq (.block 1 (.seq (.region [⟨(some 19), (.mov (.tmp 17)), none⟩, ⟨(some 20), (.iaddr 6 (.tmp 15) (.tmp 17)), none⟩, ⟨(some 21), (.load true 6 (.tmp 20)), none⟩, ⟨(some 5), (.box (.const (.agg [(.val (.int .i64 0)), (.str []), (.ro true 2 []), (.str []), (.val (.int .i64 0)), (.ro true 1 [])]))), none⟩, ⟨(some 4), (.mov (.tmp 19)), none⟩, ⟨none, (.store 6 (.tmp 5) (.tmp 21)), none⟩])
 (.seq (.region [⟨(some 22), (.faddr 5 (.tmp 5)), none⟩, ⟨(some 23), (.load false 1 (.tmp 22)), none⟩, ⟨(some 24), (.len (.tmp 23)), none⟩, ⟨(some 25), (.mov (.const (.c (.val (.int .i64 0))))), none⟩])
 (.block 2 (.loop a29_c4)))))
 (.region [⟨(some 70), (.bin .add (.tmp 17) (.const (.c (.val (.int .i64 1))))), none⟩, ⟨(some 17), (.mov (.tmp 70)), none⟩]))))
def a29_c6 : ACode := (.cond (.tmp 88) (.seq (.region [⟨(some 2), (.mov (.const (.c (.val (.int .i64 3))))), none⟩])
 .ret) .skip)
def a29_c7 : ACode := (.region [⟨(some 89), (.bin .add (.tmp 74) (.const (.c (.val (.int .i64 1))))), none⟩, ⟨(some 74), (.mov (.tmp 89)), none⟩])
def a29_c8 : ACode := (.seq (.region [⟨(some 75), (.bin .lss (.tmp 74) (.tmp 73)), none⟩])
 (.seq (.cond (.tmp 75) .skip (.exit 5))
 (.seq (.block 6 (.seq (.region [⟨(some 76), (.mov (.tmp 74)), none⟩, ⟨(some 77), (.iaddr 6 (.tmp 72) (.tmp 74)), none⟩, ⟨(some 78), (.load true 6 (.tmp 77)), none⟩, ⟨(some 9), (.box (.const (.agg [(.val (.int .i64 0)), (.str []), (.ro true 2 []), (.str []), (.val (.int .i64 0)), (.ro true 1 [])]))), none⟩, ⟨(some 8), (.mov (.tmp 76)), none⟩, ⟨none, (.store 6 (.tmp 9) (.tmp 78)), none⟩])
 (.seq (.region [⟨(some 79), (.faddr 4 (.tmp 9)), none⟩, ⟨(some 80), (.load false 1 (.tmp 79)), none⟩, ⟨(some 81), (.bin .neq (.tmp 80) (.const (.c (.val (.int .i64 (-1)))))), none⟩, ⟨(some 82), (.mov (.tmp 81)), none⟩, ⟨(some 83), (.mov (.tmp 3)), (some (82, true))⟩, ⟨(some 84), (.mov (.tmp 8)), (some (82, true))⟩, ⟨(some 85), (.iaddr 1 (.tmp 83) (.tmp 84)), (some (82, true))⟩, ⟨(some 86), (.load false 1 (.tmp 85)), (some (82, true))⟩, ⟨(some 87), (.un .not (.tmp 86)), (some (82, true))⟩, ⟨(some 88), (.pick (.tmp 82) (.tmp 87) (.const (.c (.val (.bool false))))), none⟩])
 a29_c6)))
 a29_c7)))
def a29 : AFunc := ⟨1, [(.tmp 2)], (.seq (.region [⟨(some 1), (.box (.tmp 0)), none⟩, ⟨(some 2), (.mov (.const (.c (.val (.int .i64 0))))), none⟩])
 (.seq (.region [⟨(some 10), (.faddr 0 (.tmp 1)), none⟩, ⟨(some 11), (.load false 1 (.tmp 10)), none⟩, ⟨(some 12), (.len (.tmp 11)), none⟩, ⟨(some 13), (.mksl 1 1 [(.val (.bool false))] (.tmp 12) (.tmp 12)), none⟩, ⟨(some 3), (.mov (.tmp 13)), none⟩])
 (.seq (.seq (.region [⟨(some 14), (.faddr 0 (.tmp 1)), none⟩, ⟨(some 15), (.load false 1 (.tmp 14)), none⟩, ⟨(some 16), (.len (.tmp 15)), none⟩, ⟨(some 17), (.mov (.const (.c (.val (.int .i64 0))))), none⟩])
 (.block 0 (.loop a29_c5)))
 (.seq (.seq (.region [⟨(some 71), (.faddr 0 (.tmp 1)), none⟩, ⟨(some 72), (.load false 1 (.tmp 71)), none⟩, ⟨(some 73), (.len (.tmp 72)), none⟩, ⟨(some 74), (.mov (.const (.c (.val (.int .i64 0))))), none⟩])
 (.block 5 (.loop a29_c8)))
 (.seq (.seq (.region [⟨(some 90), (.faddr 0 (.tmp 1)), none⟩, ⟨(some 91), (.load false 1 (.tmp 90)), none⟩, ⟨(some 92), (.iaddr 6 (.tmp 91) (.const (.c (.val (.int .i64 0))))), none⟩, ⟨(some 93), (.faddr 4 (.tmp 92)), none⟩, ⟨(some 94), (.load false 1 (.tmp 93)), none⟩, ⟨(some 95), (.bin .neq (.tmp 94) (.const (.c (.val (.int .i64 (-1)))))), none⟩])
 (.cond (.tmp 95) (.seq (.region [⟨(some 2), (.mov (.const (.c (.val (.int .i64 3))))), none⟩])
 .ret) .skip))
 (.seq (.region [⟨(some 2), (.mov (.const (.c (.val (.int .i64 0))))), none⟩])
 .ret))))))⟩
set_option maxRecDepth 100000 in
theorem c29 : compFunc Tryd.prog 29 = some a29 := by kernel_rfl
def dom_kids_post (r : Int) : AV → Heap → Nat → Prop := fun v h' n' => v = (I r) ∧ (h' = (fun _ => none)) ∧ n' = 0
abbrev dom_kids_l3_H (v17 : Int) (d_ : TDoc) (x_ : TNode) (F_ : (List Bool) → Int → Option Int) (o : Int) (R_ : St → Prop) : Prop := ∀ (seen2 : (List Bool)) (v25 : Int) (zseen2 : Bool) (_ : zseen2 = true → seen2 = []), F_ seen2 v25 = some o → ∀ s, Weak 0 s ⟨(upd (upd (upd (upd (upd (upd (upd (upd (upd (fun _ => none) 1 (some (.c (.ref 0 2 0 0)))) 3 (some (lstV zseen2 1 1 seen2.length))) 4 (some (I v17))) 15 (some (.c (.ro false 6 (d_.Nodes.map e_TNode))))) 16 (some (I (d_.Nodes.length : Int)))) 17 (some (I v17))) 23 (some (.c (.ro false 1 (x_.Kids.map eI))))) 24 (some (I (x_.Kids.length : Int)))) 25 (some (I v25))), (upd (upd (fun _ => none) 0 (some (.cells 2 [[.ro false 6 (d_.Nodes.map e_TNode), cB d_.Quirks]]))) 1 (lstB zseen2 1 (seen2.map eB))), 2⟩ → R_ s
abbrev dom_kids_l3_E2 (d_ : TDoc) (v17 : Int) (F_ : (List Bool) → Option Int) (o : Int) (R_ : St → Prop) : Prop := ∀ (seen3 : (List Bool)) (zseen3 : Bool) (_ : zseen3 = true → seen3 = []), F_ seen3 = some o → ∀ s, Weak 0 s ⟨(upd (upd (upd (upd (upd (fun _ => none) 1 (some (.c (.ref 0 2 0 0)))) 3 (some (lstV zseen3 1 1 seen3.length))) 15 (some (.c (.ro false 6 (d_.Nodes.map e_TNode))))) 16 (some (I (d_.Nodes.length : Int)))) 17 (some (I v17))), (upd (upd (fun _ => none) 0 (some (.cells 2 [[.ro false 6 (d_.Nodes.map e_TNode), cB d_.Quirks]]))) 1 (lstB zseen3 1 (seen3.map eB))), 2⟩ → R_ s
abbrev dom_kids_q0 (mL : Int) (Q : AExit → St → Prop) : AExit → St → Prop := AThen (Sv Tryd.prog (GG mL) 0 a29_c2 Q) Q
abbrev dom_kids_q1 (mL : Int) (Q : AExit → St → Prop) : AExit → St → Prop := ABlock 3 (dom_kids_q0 mL Q)
abbrev dom_kids_q2 (mL : Int) (Q : AExit → St → Prop) : AExit → St → Prop := AThen (Sv Tryd.prog (GG mL) 0 a29_c3 (dom_kids_q1 mL Q)) (dom_kids_q1 mL Q)
abbrev dom_kids_q3 (mL : Int) (Q : AExit → St → Prop) : AExit → St → Prop := ABlock 4 (dom_kids_q2 mL Q)
noncomputable def dom_kids_j18 (x_1 : Int) (v25 : Int) (v17 : Int) (d_ : TDoc) (x_ : TNode) (self : (List Bool) → Int → Option Int) (K2_ : (List Bool) → Option Int) (seen5 : (List Bool)) (v54 : Bool) : Option Int :=
  if v54 then
    some 7
  else
    (at? seen5 x_1).bind fun x_2 =>
    self (seen5.set x_1.toNat true) (wi (v25 + 1))
theorem dom_kids_j18_ok {mL : Int} {Q : AExit → St → Prop} {x_1 : Int} {v25 : Int} {v17 : Int} {d_ : TDoc} {x_ : TNode} {self : (List Bool) → Int → Option Int} {K2_ : (List Bool) → Option Int} {seen5 : (List Bool)} {v54 : Bool} {zseen5 : Bool} (hzseen5 : zseen5 = true → seen5 = []) {o : Int} (h : dom_kids_j18 x_1 v25 v17 d_ x_ self K2_ seen5 v54 = some o)
    (hself : dom_kids_l3_H v17 d_ x_ self o (Q .normal))
    (hK2 : dom_kids_l3_E2 d_ v17 K2_ o (Q (.exit 2)))
    (hr : ∀ s, Ends a29.results 0 (dom_kids_post o) .ret s → Q .ret s) :
    Sv Tryd.prog (GG mL) 0 a29_c1 (dom_kids_q3 mL Q) ⟨(upd (upd (upd (upd (upd (upd (upd (upd (upd (upd (upd (fun _ => none) 1 (some (.c (.ref 0 2 0 0)))) 3 (some (lstV zseen5 1 1 seen5.length))) 4 (some (I v17))) 7 (some (I x_1))) 15 (some (.c (.ro false 6 (d_.Nodes.map e_TNode))))) 16 (some (I (d_.Nodes.length : Int)))) 17 (some (I v17))) 23 (some (.c (.ro false 1 (x_.Kids.map eI))))) 24 (some (I (x_.Kids.length : Int)))) 25 (some (I v25))) 54 (some (B v54))), (upd (upd (fun _ => none) 0 (some (.cells 2 [[.ro false 6 (d_.Nodes.map e_TNode), cB d_.Quirks]]))) 1 (lstB zseen5 1 (seen5.map eB))), 2⟩ := by
  unfold dom_kids_j18 at h
  refine Sv.cond (b := v54) rfl (fun hc4 => ?_) (fun hc4 => ?_)
  · replace h := ifT hc4 h
    refine Sv.seq ?_
    refine Sv.region ?_
    refine un (a1 rfl ?_)
    refine dnil ?_
    refine Sv.ret ?_
    replace h := Option.some.inj h
    subst h
    exact hr _ ⟨_, .refl _, _, rfl, ⟨upd (fun _ => none) 0 (some (I 7)), (fun _ => none), 0⟩, (I 7), weak_canon [] rfl List.nodup_nil (Nat.le_refl _) (fun b h => absurd h (Nat.not_lt_zero _)) (.cons rfl (avAs_free rfl) .nil) .nil, rfl, rfl, rfl, rfl⟩
  · replace h := ifF hc4 h
    refine Sv.skip ?_
    refine Sv.region ?_
    refine un (a1 rfl ?_)
    refine un (a1 rfl ?_)
    obtain ⟨x_2, hx4, h⟩ := bnd h
    refine un (a1 (v := (.c (.ref 1 1 x_1.toNat 0))) (s_iaddrL rfl rfl hzseen5 hx4) ?_)
    refine un (a2n (h' := upd _ 1 (lstB zseen5 1 ((seen5.set x_1.toNat true).map eB))) (n' := 2) rfl (s_storeL (e := eB) (q' := true) rfl rfl hzseen5 hx4 rfl rfl rfl (Nat.le_of_ble_eq_true rfl) rfl) (fun h => by cases h) ?_)
    try rw [len_set seen5 x_1.toNat true]
    refine dnil ?_
    refine Sv.region ?_
    refine un (a1 (v := (I (wi (v25 + 1)))) rfl ?_)
    refine un (a1 rfl ?_)
    refine dnil ?_
    exact hself (seen5.set x_1.toNat true) (wi (v25 + 1)) zseen5 (hz_len hzseen5 (len_set seen5 x_1.toNat true)) h _ (weak_canon [0, 1] rfl (by decide) (by decide) (fun b h => absurd h (Nat.not_lt_zero _)) (.cons rfl (avAs_free rfl) (.cons rfl (avAs_free rfl) (.cons rfl (avAs_free rfl) (.cons rfl (avAs_free rfl) (.cons rfl (avAs_free rfl) (.cons rfl (avAs_free rfl) (.cons rfl (avAs_free rfl) (.cons rfl (.c (lstC_ren rfl (by decide))) (.cons rfl (.c (.ref rfl (by decide))) .nil))))))))) (.row (by decide) rfl (fr_map fun _ => rfl) (.box (by decide) rfl (blkAs_cells (.cons (.same rfl) (.cons (.same rfl) .nil))) .nil)))
noncomputable def dom_kids_j17 (v17 : Int) (d_ : TDoc) (x_1 : Int) (v25 : Int) (x_ : TNode) (self : (List Bool) → Int → Option Int) (K2_ : (List Bool) → Option Int) (seen4 : (List Bool)) (v29 : Bool) : Option Int :=
  if v29 then
    some 3
  else
    if decide (v17 = 0) then
      (at? d_.Nodes x_1).bind fun x_3 =>
      dom_kids_j18 x_1 v25 v17 d_ x_ self K2_ seen4 (decide (x_3.Kind = 3))
    else
      dom_kids_j18 x_1 v25 v17 d_ x_ self K2_ seen4 false
theorem dom_kids_j17_ok {mL : Int} {Q : AExit → St → Prop} {v17 : Int} {d_ : TDoc} {x_1 : Int} {v25 : Int} {x_ : TNode} {self : (List Bool) → Int → Option Int} {K2_ : (List Bool) → Option Int} {seen4 : (List Bool)} {v29 : Bool} {zseen4 : Bool} (hzseen4 : zseen4 = true → seen4 = []) {o : Int} (h : dom_kids_j17 v17 d_ x_1 v25 x_ self K2_ seen4 v29 = some o)
    (hself : dom_kids_l3_H v17 d_ x_ self o (Q .normal))
    (hK2 : dom_kids_l3_E2 d_ v17 K2_ o (Q (.exit 2)))
    (hr : ∀ s, Ends a29.results 0 (dom_kids_post o) .ret s → Q .ret s) :
    Sv Tryd.prog (GG mL) 0 a29_c0 (dom_kids_q3 mL Q) ⟨(upd (upd (upd (upd (upd (upd (upd (upd (upd (upd (upd (fun _ => none) 1 (some (.c (.ref 0 2 0 0)))) 3 (some (lstV zseen4 1 1 seen4.length))) 4 (some (I v17))) 7 (some (I x_1))) 15 (some (.c (.ro false 6 (d_.Nodes.map e_TNode))))) 16 (some (I (d_.Nodes.length : Int)))) 17 (some (I v17))) 23 (some (.c (.ro false 1 (x_.Kids.map eI))))) 24 (some (I (x_.Kids.length : Int)))) 25 (some (I v25))) 29 (some (B v29))), (upd (upd (fun _ => none) 0 (some (.cells 2 [[.ro false 6 (d_.Nodes.map e_TNode), cB d_.Quirks]]))) 1 (lstB zseen4 1 (seen4.map eB))), 2⟩ := by
  unfold dom_kids_j17 at h
  refine Sv.cond (b := v29) rfl (fun hc3 => ?_) (fun hc3 => ?_)
  · replace h := ifT hc3 h
    refine Sv.seq ?_
    refine Sv.region ?_
    refine un (a1 rfl ?_)
    refine dnil ?_
    refine Sv.ret ?_
    replace h := Option.some.inj h
    subst h
    exact hr _ ⟨_, .refl _, _, rfl, ⟨upd (fun _ => none) 0 (some (I 3)), (fun _ => none), 0⟩, (I 3), weak_canon [] rfl List.nodup_nil (Nat.le_refl _) (fun b h => absurd h (Nat.not_lt_zero _)) (.cons rfl (avAs_free rfl) .nil) .nil, rfl, rfl, rfl, rfl⟩
  · replace h := ifF hc3 h
    refine Sv.seq ?_
    refine Sv.region ?_
    refine un (a1 rfl ?_)
    refine un (a1 (v := (B (decide (v17 = 0)))) rfl ?_)
    refine un (a1 rfl ?_)
    refine split2 (fun hc5 => ?_) (fun hc5 => ?_)
    · replace h := ifT hc5 h
      refine gt rfl (a1 (v := (.c (.ref 0 2 0 0))) rfl ?_)
      refine gt rfl (a1 (v := (.c (.ro false 6 (d_.Nodes.map e_TNode)))) rfl ?_)
      refine gt rfl (a1 rfl ?_)
      obtain ⟨x_3, hx5, h⟩ := bnd h
      refine gt rfl (a1 (v := (.c (.rop [cI x_3.Kind, .str x_3.Name, .ro false 2 (x_3.Attrs.map e_TAttr), .str x_3.Text, cI x_3.Parent, .ro false 1 (x_3.Kids.map eI)]))) (s_iaddr (e := e_TNode) (xs := d_.Nodes) rfl rfl hx5) ?_)
      refine gt rfl (a1 (v := (.c (.rop [cI x_3.Kind, .str x_3.Name, .ro false 2 (x_3.Attrs.map e_TAttr), .str x_3.Text, cI x_3.Parent, .ro false 1 (x_3.Kids.map eI)]))) rfl ?_)
      refine gt rfl (a1 (v := (I x_3.Kind)) rfl ?_)
      refine gt rfl (a1 (v := (B (decide (x_3.Kind = 3)))) rfl ?_)
      refine un (a1 (v := (B (decide (x_3.Kind = 3)))) rfl ?_)
      refine un (a1 rfl ?_)
      refine dnil ?_
      exact Sv.weak (weak_canon [0, 1] rfl (by decide) (by decide) (fun b h => absurd h (Nat.not_lt_zero _)) (.cons rfl (avAs_free rfl) (.cons rfl (avAs_free rfl) (.cons rfl (avAs_free rfl) (.cons rfl (avAs_free rfl) (.cons rfl (avAs_free rfl) (.cons rfl (avAs_free rfl) (.cons rfl (avAs_free rfl) (.cons rfl (avAs_free rfl) (.cons rfl (avAs_free rfl) (.cons rfl (.c (lstC_ren rfl (by decide))) (.cons rfl (.c (.ref rfl (by decide))) .nil))))))))))) (.row (by decide) rfl (fr_map fun _ => rfl) (.box (by decide) rfl (blkAs_cells (.cons (.same rfl) (.cons (.same rfl) .nil))) .nil))) (dom_kids_j18_ok hzseen4 h hself hK2 hr)
    · replace h := ifF hc5 h
      refine gs rfl rfl ?_
      refine gs rfl rfl ?_
      refine gs rfl rfl ?_
      refine gs rfl rfl ?_
      refine gs rfl rfl ?_
      refine gs rfl rfl ?_
      refine gs rfl rfl ?_
      refine un (a1 (v := (B false)) rfl ?_)
      refine un (a1 rfl ?_)
      refine dnil ?_
      exact Sv.weak (weak_canon [0, 1] rfl (by decide) (by decide) (fun b h => absurd h (Nat.not_lt_zero _)) (.cons rfl (avAs_free rfl) (.cons rfl (avAs_free rfl) (.cons rfl (avAs_free rfl) (.cons rfl (avAs_free rfl) (.cons rfl (avAs_free rfl) (.cons rfl (avAs_free rfl) (.cons rfl (avAs_free rfl) (.cons rfl (avAs_free rfl) (.cons rfl (avAs_free rfl) (.cons rfl (.c (lstC_ren rfl (by decide))) (.cons rfl (.c (.ref rfl (by decide))) .nil))))))))))) (.row (by decide) rfl (fr_map fun _ => rfl) (.box (by decide) rfl (blkAs_cells (.cons (.same rfl) (.cons (.same rfl) .nil))) .nil))) (dom_kids_j18_ok hzseen4 h hself hK2 hr)
abbrev dom_kids_l3_I (v17 : Int) (d_ : TDoc) (x_ : TNode) (F_ : Nat → (List Bool) → Int → Option Int) (o : Int) : Nat → St → Prop := fun k s => ∃ (seen2 : (List Bool)), ∃ (v25 : Int), ∃ (zseen2 : Bool), (zseen2 = true → seen2 = []) ∧ F_ k seen2 v25 = some o ∧ s = ⟨(upd (upd (upd (upd (upd (upd (upd (upd (upd (fun _ => none) 1 (some (.c (.ref 0 2 0 0)))) 3 (some (lstV zseen2 1 1 seen2.length))) 4 (some (I v17))) 15 (some (.c (.ro false 6 (d_.Nodes.map e_TNode))))) 16 (some (I (d_.Nodes.length : Int)))) 17 (some (I v17))) 23 (some (.c (.ro false 1 (x_.Kids.map eI))))) 24 (some (I (x_.Kids.length : Int)))) 25 (some (I v25))), (upd (upd (fun _ => none) 0 (some (.cells 2 [[.ro false 6 (d_.Nodes.map e_TNode), cB d_.Quirks]]))) 1 (lstB zseen2 1 (seen2.map eB))), 2⟩
noncomputable def dom_kids_l3 (x_ : TNode) (v17 : Int) (d_ : TDoc) (K2_ : (List Bool) → Option Int) : Nat → (List Bool) → Int → Option Int
  | 0, _, _ => none
  | k + 1, seen2, v25 =>
    if decide (v25 < (x_.Kids.length : Int)) then
      (at? x_.Kids v25).bind fun x_1 =>
      if ((decide (x_1 < 0)) || (decide ((seen2.length : Int) ≤ x_1))) then
        dom_kids_j17 v17 d_ x_1 v25 x_ (dom_kids_l3 x_ v17 d_ K2_ k) K2_ seen2 true
      else
        (at? d_.Nodes x_1).bind fun x_4 =>
        if (!decide (x_4.Parent = v17)) then
          dom_kids_j17 v17 d_ x_1 v25 x_ (dom_kids_l3 x_ v17 d_ K2_ k) K2_ seen2 true
        else
          (at? seen2 x_1).bind fun x_5 =>
          dom_kids_j17 v17 d_ x_1 v25 x_ (dom_kids_l3 x_ v17 d_ K2_ k) K2_ seen2 x_5
    else
      K2_ seen2
theorem dom_kids_l3_ok {mL : Int} {Q : AExit → St → Prop} {x_ : TNode} {v17 : Int} {d_ : TDoc} {K2_ : (List Bool) → Option Int} {k : Nat} {seen2 : (List Bool)} {v25 : Int} {zseen2 : Bool} (hzseen2 : zseen2 = true → seen2 = []) {o : Int} (h : dom_kids_l3 x_ v17 d_ K2_ k seen2 v25 = some o)
    (hK2 : dom_kids_l3_E2 d_ v17 K2_ o (Q (.exit 2)))
    (hr : ∀ s, Ends a29.results 0 (dom_kids_post o) .ret s → Q .ret s) :
    Sv Tryd.prog (GG mL) 0 (.loop a29_c4) Q ⟨(upd (upd (upd (upd (upd (upd (upd (upd (upd (fun _ => none) 1 (some (.c (.ref 0 2 0 0)))) 3 (some (lstV zseen2 1 1 seen2.length))) 4 (some (I v17))) 15 (some (.c (.ro false 6 (d_.Nodes.map e_TNode))))) 16 (some (I (d_.Nodes.length : Int)))) 17 (some (I v17))) 23 (some (.c (.ro false 1 (x_.Kids.map eI))))) 24 (some (I (x_.Kids.length : Int)))) 25 (some (I v25))), (upd (upd (fun _ => none) 0 (some (.cells 2 [[.ro false 6 (d_.Nodes.map e_TNode), cB d_.Quirks]]))) 1 (lstB zseen2 1 (seen2.map eB))), 2⟩ := by
  refine Sv.loop (I := dom_kids_l3_I v17 d_ x_ (dom_kids_l3 x_ v17 d_ K2_) o) (fun k s hI => ?_) ⟨seen2, v25, zseen2, hzseen2, h, rfl⟩
  clear h
  clear hzseen2 zseen2 v25 seen2
  obtain ⟨seen2, v25, zseen2, hzseen2, h, rfl⟩ := hI
  cases k with
  | zero => cases h
  | succ k =>
  rw [dom_kids_l3] at h
  have hself : dom_kids_l3_H v17 d_ x_ (dom_kids_l3 x_ v17 d_ K2_ k) o (rnd 0 (dom_kids_l3_I v17 d_ x_ (dom_kids_l3 x_ v17 d_ K2_) o) k Q) := fun seen2 v25 zseen2 hzseen2 h s hw => ⟨_, k, hw, Nat.lt_succ_self k, seen2, v25, zseen2, hzseen2, h, rfl⟩
  refine Sv.seq ?_
  refine Sv.region ?_
  refine un (a1 (v := (B (decide (v25 < (x_.Kids.length : Int))))) rfl ?_)
  refine dnil ?_
  refine Sv.seq ?_
  refine Sv.cond (b := decide (v25 < (x_.Kids.length : Int))) rfl (fun hc2 => ?_) (fun hc2 => ?_)
  · replace h := ifT hc2 h
    refine Sv.skip ?_
    refine Sv.seq ?_
    refine Sv.block ?_
    refine Sv.seq ?_
    refine Sv.region ?_
    obtain ⟨x_1, hx3, h⟩ := bnd h
    refine un (a1 (v := (.c (.rop [cI x_1]))) (s_iaddr (e := eI) (xs := x_.Kids) rfl rfl hx3) ?_)
    refine un (a1 (v := (I x_1)) rfl ?_)
    refine un (a1 rfl ?_)
    refine dnil ?_
    refine Sv.seq ?_
    refine Sv.block ?_
    refine Sv.seq ?_
    refine Sv.region ?_
    refine un (a1 rfl ?_)
    refine un (a1 (v := (B (decide (x_1 < 0)))) rfl ?_)
    refine un (a1 rfl ?_)
    refine gjoin 5 (d := 37) (v := (B ((decide (x_1 < 0)) || (decide ((seen2.length : Int) ≤ x_1))))) (fun X hX => ?_) ?_
    · refine split2 (fun hc6 => ?_) (fun hc6 => ?_)
      · refine gs rfl rfl ?_
        refine gs rfl rfl ?_
        refine gs rfl rfl ?_
        refine gs rfl rfl ?_
        refine un (a1 (v := (B true)) rfl ?_)
        refine dnil ?_
        exact hX _ (.putEq (by rw [hc6]; rfl) (.skip _ _ (.skip _ _ (.skip _ _ (.skip _ _ (.putEq (by rw [hc6]) (.refl _)) rfl) rfl) rfl) rfl))
      · refine gt rfl (a1 rfl ?_)
        refine gt rfl (a1 rfl ?_)
        refine gt rfl (a1 (v := (I (seen2.length : Int))) (s_lenL rfl (len_nil_of hzseen2)) ?_)
        refine gt rfl (a1 (v := (B (decide ((seen2.length : Int) ≤ x_1)))) rfl ?_)
        refine un (a1 (v := (B (decide ((seen2.length : Int) ≤ x_1)))) rfl ?_)
        refine dnil ?_
        exact hX _ (.putEq (by rw [hc6]; rfl) (.skip _ _ (.skip _ _ (.skip _ _ (.skip _ _ (.putEq (by rw [hc6]) (.refl _)) rfl) rfl) rfl) rfl))
    refine un (a1 rfl ?_)
    refine split2 (fun hc7 => ?_) (fun hc7 => ?_)
    · replace h := ifT hc7 h
      refine gs rfl rfl ?_
      refine gs rfl rfl ?_
      refine gs rfl rfl ?_
      refine gs rfl rfl ?_
      refine gs rfl rfl ?_
      refine gs rfl rfl ?_
      refine gs rfl rfl ?_
      refine gs rfl rfl ?_
      refine un (a1 (v := (B true)) rfl ?_)
      refine un (a1 rfl ?_)
      refine gs rfl rfl ?_
      refine gs rfl rfl ?_
      refine gs rfl rfl ?_
      refine gs rfl rfl ?_
      refine un (a1 (v := (B true)) rfl ?_)
      refine un (a1 rfl ?_)
      refine dnil ?_
      exact Sv.weak (weak_canon [0, 1] rfl (by decide) (by decide) (fun b h => absurd h (Nat.not_lt_zero _)) (.cons rfl (avAs_free rfl) (.cons rfl (avAs_free rfl) (.cons rfl (avAs_free rfl) (.cons rfl (avAs_free rfl) (.cons rfl (avAs_free rfl) (.cons rfl (avAs_free rfl) (.cons rfl (avAs_free rfl) (.cons rfl (avAs_free rfl) (.cons rfl (avAs_free rfl) (.cons rfl (.c (lstC_ren rfl (by decide))) (.cons rfl (.c (.ref rfl (by decide))) .nil))))))))))) (.row (by decide) rfl (fr_map fun _ => rfl) (.box (by decide) rfl (blkAs_cells (.cons (.same rfl) (.cons (.same rfl) .nil))) .nil))) (dom_kids_j17_ok hzseen2 h hself hK2 hr)
    · replace h := ifF hc7 h
      refine gt rfl (a1 (v := (.c (.ref 0 2 0 0))) rfl ?_)
      refine gt rfl (a1 (v := (.c (.ro false 6 (d_.Nodes.map e_TNode)))) rfl ?_)
      refine gt rfl (a1 rfl ?_)
      obtain ⟨x_4, hx6, h⟩ := bnd h
      refine gt rfl (a1 (v := (.c (.rop [cI x_4.Kind, .str x_4.Name, .ro false 2 (x_4.Attrs.map e_TAttr), .str x_4.Text, cI x_4.Parent, .ro false 1 (x_4.Kids.map eI)]))) (s_iaddr (e := e_TNode) (xs := d_.Nodes) rfl rfl hx6) ?_)
      refine gt rfl (a1 (v := (.c (.rop [cI x_4.Parent, .ro false 1 (x_4.Kids.map eI)]))) rfl ?_)
      refine gt rfl (a1 (v := (I x_4.Parent)) rfl ?_)
      refine gt rfl (a1 rfl ?_)
      refine gt rfl (a1 (v := (B (!decide (x_4.Parent = v17)))) rfl ?_)
      refine un (a1 (v := (B (!decide (x_4.Parent = v17)))) rfl ?_)
      refine un (a1 rfl ?_)
      refine split2 (fun hc8 => ?_) (fun hc8 => ?_)
      · replace h := ifT hc8 h
        refine gs rfl rfl ?_
        refine gs rfl rfl ?_
        refine gs rfl rfl ?_
        refine gs rfl rfl ?_
        refine un (a1 (v := (B true)) rfl ?_)
        refine un (a1 rfl ?_)
        refine dnil ?_
        exact Sv.weak (weak_canon [0, 1] rfl (by decide) (by decide) (fun b h => absurd h (Nat.not_lt_zero _)) (.cons rfl (avAs_free rfl) (.cons rfl (avAs_free rfl) (.cons rfl (avAs_free rfl) (.cons rfl (avAs_free rfl) (.cons rfl (avAs_free rfl) (.cons rfl (avAs_free rfl) (.cons rfl (avAs_free rfl) (.cons rfl (avAs_free rfl) (.cons rfl (avAs_free rfl) (.cons rfl (.c (lstC_ren rfl (by decide))) (.cons rfl (.c (.ref rfl (by decide))) .nil))))))))))) (.row (by decide) rfl (fr_map fun _ => rfl) (.box (by decide) rfl (blkAs_cells (.cons (.same rfl) (.cons (.same rfl) .nil))) .nil))) (dom_kids_j17_ok hzseen2 h hself hK2 hr)
      · replace h := ifF hc8 h
        refine gt rfl (a1 rfl ?_)
        refine gt rfl (a1 rfl ?_)
        obtain ⟨x_5, hx7, h⟩ := bnd h
        refine gt rfl (a1 (v := (.c (.ref 1 1 x_1.toNat 0))) (s_iaddrL rfl rfl hzseen2 hx7) ?_)
        refine gt rfl (a1 (v := (B x_5)) (s_loadL (z := zseen2) (e := eB) rfl rfl hzseen2 hx7 rfl rfl) ?_)
        refine un (a1 (v := (B x_5)) rfl ?_)
        refine un (a1 rfl ?_)
        refine dnil ?_
        exact Sv.weak (weak_canon [0, 1] rfl (by decide) (by decide) (fun b h => absurd h (Nat.not_lt_zero _)) (.cons rfl (avAs_free rfl) (.cons rfl (avAs_free rfl) (.cons rfl (avAs_free rfl) (.cons rfl (avAs_free rfl) (.cons rfl (avAs_free rfl) (.cons rfl (avAs_free rfl) (.cons rfl (avAs_free rfl) (.cons rfl (avAs_free rfl) (.cons rfl (avAs_free rfl) (.cons rfl (.c (lstC_ren rfl (by decide))) (.cons rfl (.c (.ref rfl (by decide))) .nil))))))))))) (.row (by decide) rfl (fr_map fun _ => rfl) (.box (by decide) rfl (blkAs_cells (.cons (.same rfl) (.cons (.same rfl) .nil))) .nil))) (dom_kids_j17_ok hzseen2 h hself hK2 hr)
  · replace h := ifF hc2 h
    refine Sv.exit ?_
    exact hK2 seen2 zseen2 hzseen2 h _ (weak_canon [0, 1] rfl (by decide) (by decide) (fun b h => absurd h (Nat.not_lt_zero _)) (.cons rfl (avAs_free rfl) (.cons rfl (avAs_free rfl) (.cons rfl (avAs_free rfl) (.cons rfl (.c (lstC_ren rfl (by decide))) (.cons rfl (.c (.ref rfl (by decide))) .nil))))) (.row (by decide) rfl (fr_map fun _ => rfl) (.box (by decide) rfl (blkAs_cells (.cons (.same rfl) (.cons (.same rfl) .nil))) .nil)))
abbrev dom_kids_l2_E0 (d_ : TDoc) (F_ : (List Bool) → Option Int) (o : Int) (R_ : St → Prop) : Prop := ∀ (seen1 : (List Bool)) (zseen1 : Bool) (_ : zseen1 = true → seen1 = []), F_ seen1 = some o → ∀ s, Weak 0 s ⟨(upd (upd (fun _ => none) 1 (some (.c (.ref 0 2 0 0)))) 3 (some (lstV zseen1 1 1 seen1.length))), (upd (upd (fun _ => none) 0 (some (.cells 2 [[.ro false 6 (d_.Nodes.map e_TNode), cB d_.Quirks]]))) 1 (lstB zseen1 1 (seen1.map eB))), 2⟩ → R_ s
abbrev dom_kids_l2_I (d_ : TDoc) (F_ : Nat → (List Bool) → Int → Option Int) (o : Int) : Nat → St → Prop := fun k s => ∃ (seen : (List Bool)), ∃ (v17 : Int), ∃ (zseen : Bool), (zseen = true → seen = []) ∧ F_ k seen v17 = some o ∧ s = ⟨(upd (upd (upd (upd (upd (fun _ => none) 1 (some (.c (.ref 0 2 0 0)))) 3 (some (lstV zseen 1 1 seen.length))) 15 (some (.c (.ro false 6 (d_.Nodes.map e_TNode))))) 16 (some (I (d_.Nodes.length : Int)))) 17 (some (I v17))), (upd (upd (fun _ => none) 0 (some (.cells 2 [[.ro false 6 (d_.Nodes.map e_TNode), cB d_.Quirks]]))) 1 (lstB zseen 1 (seen.map eB))), 2⟩
abbrev dom_kids_l2_H (d_ : TDoc) (F_ : (List Bool) → Int → Option Int) (o : Int) (R_ : St → Prop) : Prop := ∀ (seen : (List Bool)) (v17 : Int) (zseen : Bool) (_ : zseen = true → seen = []), F_ seen v17 = some o → ∀ s, Weak 0 s ⟨(upd (upd (upd (upd (upd (fun _ => none) 1 (some (.c (.ref 0 2 0 0)))) 3 (some (lstV zseen 1 1 seen.length))) 15 (some (.c (.ro false 6 (d_.Nodes.map e_TNode))))) 16 (some (I (d_.Nodes.length : Int)))) 17 (some (I v17))), (upd (upd (fun _ => none) 0 (some (.cells 2 [[.ro false 6 (d_.Nodes.map e_TNode), cB d_.Quirks]]))) 1 (lstB zseen 1 (seen.map eB))), 2⟩ → R_ s
noncomputable def dom_kids_l2 (d_ : TDoc) (K0_ : (List Bool) → Option Int) : Nat → (List Bool) → Int → Option Int
  | 0, _, _ => none
  | k + 1, seen, v17 =>
    if decide (v17 < (d_.Nodes.length : Int)) then
      (at? d_.Nodes v17).bind fun x_ =>
      lim fun kk => dom_kids_l3 x_ v17 d_ (fun (seen3 : (List Bool)) => 
          (dom_kids_l2 d_ K0_ k) seen3 (wi (v17 + 1))) kk seen 0
    else
      K0_ seen
theorem dom_kids_l2_ok {mL : Int} {Q : AExit → St → Prop} {d_ : TDoc} {K0_ : (List Bool) → Option Int} {k : Nat} {seen : (List Bool)} {v17 : Int} {zseen : Bool} (hzseen : zseen = true → seen = []) {o : Int} (h : dom_kids_l2 d_ K0_ k seen v17 = some o)
    (hK0 : dom_kids_l2_E0 d_ K0_ o (Q (.exit 0)))
    (hr : ∀ s, Ends a29.results 0 (dom_kids_post o) .ret s → Q .ret s) :
    Sv Tryd.prog (GG mL) 0 (.loop a29_c5) Q ⟨(upd (upd (upd (upd (upd (fun _ => none) 1 (some (.c (.ref 0 2 0 0)))) 3 (some (lstV zseen 1 1 seen.length))) 15 (some (.c (.ro false 6 (d_.Nodes.map e_TNode))))) 16 (some (I (d_.Nodes.length : Int)))) 17 (some (I v17))), (upd (upd (fun _ => none) 0 (some (.cells 2 [[.ro false 6 (d_.Nodes.map e_TNode), cB d_.Quirks]]))) 1 (lstB zseen 1 (seen.map eB))), 2⟩ := by
  refine Sv.loop (I := dom_kids_l2_I d_ (dom_kids_l2 d_ K0_) o) (fun k s hI => ?_) ⟨seen, v17, zseen, hzseen, h, rfl⟩
  clear h
  clear hzseen zseen v17 seen
  obtain ⟨seen, v17, zseen, hzseen, h, rfl⟩ := hI
  cases k with
  | zero => cases h
  | succ k =>
  rw [dom_kids_l2] at h
  have hself : dom_kids_l2_H d_ (dom_kids_l2 d_ K0_ k) o (rnd 0 (dom_kids_l2_I d_ (dom_kids_l2 d_ K0_) o) k Q) := fun seen v17 zseen hzseen h s hw => ⟨_, k, hw, Nat.lt_succ_self k, seen, v17, zseen, hzseen, h, rfl⟩
  refine Sv.seq ?_
  refine Sv.region ?_
  refine un (a1 (v := (B (decide (v17 < (d_.Nodes.length : Int))))) rfl ?_)
  refine dnil ?_
  refine Sv.seq ?_
  refine Sv.cond (b := decide (v17 < (d_.Nodes.length : Int))) rfl (fun hc1 => ?_) (fun hc1 => ?_)
  · replace h := ifT hc1 h
    refine Sv.skip ?_
    refine Sv.seq ?_
    refine Sv.block ?_
    refine Sv.seq ?_
    refine Sv.region ?_
    refine un (a1 rfl ?_)
    obtain ⟨x_, hx2, h⟩ := bnd h
    refine un (a1 (v := (.c (.rop [cI x_.Kind, .str x_.Name, .ro false 2 (x_.Attrs.map e_TAttr), .str x_.Text, cI x_.Parent, .ro false 1 (x_.Kids.map eI)]))) (s_iaddr (e := e_TNode) (xs := d_.Nodes) rfl rfl hx2) ?_)
    refine un (a1 (v := (.agg [cI x_.Kind, .str x_.Name, .ro false 2 (x_.Attrs.map e_TAttr), .str x_.Text, cI x_.Parent, .ro false 1 (x_.Kids.map eI)])) rfl ?_)
    refine un (a2v (v := (.c (.ref 2 6 0 0))) (h' := upd _ 2 (some (.cells 6 [[cI 0, .str [], .ro true 2 [], .str [], cI 0, .ro true 1 []]]))) (n' := 3) rfl rfl (fun h => by cases h) ?_)
    refine un (a1 rfl ?_)
    refine un (a2n (h' := upd _ 2 (some (.cells 6 [[cI x_.Kind, .str x_.Name, .ro false 2 (x_.Attrs.map e_TAttr), .str x_.Text, cI x_.Parent, .ro false 1 (x_.Kids.map eI)]]))) (n' := 3) rfl rfl (fun h => by cases h) ?_)
    refine dnil ?_
    refine Sv.seq ?_
    refine Sv.region ?_
    refine un (a1 (v := (.c (.ref 2 6 0 5))) rfl ?_)
    refine un (a1 (v := (.c (.ro false 1 (x_.Kids.map eI)))) rfl ?_)
    refine un (a1 (v := (I (x_.Kids.length : Int))) (s_len (e := eI) (xs := x_.Kids) rfl) ?_)
    refine un (a1 rfl ?_)
    refine dnil ?_
    refine Sv.block ?_
    obtain ⟨kk, h⟩ := lim_some h
    refine Sv.weak (weak_canon [0, 1] rfl (by decide) (by decide) (fun b h => absurd h (Nat.not_lt_zero _)) (.cons rfl (avAs_free rfl) (.cons rfl (avAs_free rfl) (.cons rfl (avAs_free rfl) (.cons rfl (avAs_free rfl) (.cons rfl (avAs_free rfl) (.cons rfl (avAs_free rfl) (.cons rfl (avAs_free rfl) (.cons rfl (.c (lstC_ren rfl (by decide))) (.cons rfl (.c (.ref rfl (by decide))) .nil))))))))) (.row (by decide) rfl (fr_map fun _ => rfl) (.box (by decide) rfl (blkAs_cells (.cons (.same rfl) (.cons (.same rfl) .nil))) .nil))) (dom_kids_l3_ok hzseen h ?_ hr)
    · intro seen3 zseen3 hzseen3 h _ hw1
      refine Sv.weak hw1 ?_
      refine Sv.region ?_
      refine un (a1 (v := (I (wi (v17 + 1)))) rfl ?_)
      refine un (a1 rfl ?_)
      refine dnil ?_
      exact hself seen3 (wi (v17 + 1)) zseen3 hzseen3 h _ (weak_canon [0, 1] rfl (by decide) (by decide) (fun b h => absurd h (Nat.not_lt_zero _)) (.cons rfl (avAs_free rfl) (.cons rfl (avAs_free rfl) (.cons rfl (avAs_free rfl) (.cons rfl (.c (lstC_ren rfl (by decide))) (.cons rfl (.c (.ref rfl (by decide))) .nil))))) (.row (by decide) rfl (fr_map fun _ => rfl) (.box (by decide) rfl (blkAs_cells (.cons (.same rfl) (.cons (.same rfl) .nil))) .nil)))
  · replace h := ifF hc1 h
    refine Sv.exit ?_
    exact hK0 seen zseen hzseen h _ (weak_canon [0, 1] rfl (by decide) (by decide) (fun b h => absurd h (Nat.not_lt_zero _)) (.cons rfl (.c (lstC_ren rfl (by decide))) (.cons rfl (.c (.ref rfl (by decide))) .nil)) (.row (by decide) rfl (fr_map fun _ => rfl) (.box (by decide) rfl (blkAs_cells (.cons (.same rfl) (.cons (.same rfl) .nil))) .nil)))
abbrev dom_kids_l4_H (d_ : TDoc) (F_ : (List Bool) → Int → Option Int) (o : Int) (R_ : St → Prop) : Prop := ∀ (seen6 : (List Bool)) (v74 : Int) (zseen6 : Bool) (_ : zseen6 = true → seen6 = []), F_ seen6 v74 = some o → ∀ s, Weak 0 s ⟨(upd (upd (upd (upd (upd (fun _ => none) 1 (some (.c (.ref 0 2 0 0)))) 3 (some (lstV zseen6 1 1 seen6.length))) 72 (some (.c (.ro false 6 (d_.Nodes.map e_TNode))))) 73 (some (I (d_.Nodes.length : Int)))) 74 (some (I v74))), (upd (upd (fun _ => none) 0 (some (.cells 2 [[.ro false 6 (d_.Nodes.map e_TNode), cB d_.Quirks]]))) 1 (lstB zseen6 1 (seen6.map eB))), 2⟩ → R_ s
abbrev dom_kids_l4_E5 (d_ : TDoc) (F_ : Unit → Option Int) (o : Int) (R_ : St → Prop) : Prop := ∀ (_ : Unit), F_ () = some o → ∀ s, Weak 0 s ⟨(upd (fun _ => none) 1 (some (.c (.ref 0 2 0 0)))), (upd (fun _ => none) 0 (some (.cells 2 [[.ro false 6 (d_.Nodes.map e_TNode), cB d_.Quirks]]))), 1⟩ → R_ s
abbrev dom_kids_q4 (mL : Int) (Q : AExit → St → Prop) : AExit → St → Prop := AThen (Sv Tryd.prog (GG mL) 0 a29_c7 Q) Q
abbrev dom_kids_q5 (mL : Int) (Q : AExit → St → Prop) : AExit → St → Prop := ABlock 6 (dom_kids_q4 mL Q)
noncomputable def dom_kids_j21 (v74 : Int) (d_ : TDoc) (self : (List Bool) → Int → Option Int) (K5_ : Unit → Option Int) (seen7 : (List Bool)) (v88 : Bool) : Option Int :=
  if v88 then
    some 3
  else
    self seen7 (wi (v74 + 1))
theorem dom_kids_j21_ok {mL : Int} {Q : AExit → St → Prop} {v74 : Int} {d_ : TDoc} {self : (List Bool) → Int → Option Int} {K5_ : Unit → Option Int} {seen7 : (List Bool)} {v88 : Bool} {zseen7 : Bool} (hzseen7 : zseen7 = true → seen7 = []) {o : Int} (h : dom_kids_j21 v74 d_ self K5_ seen7 v88 = some o)
    (hself : dom_kids_l4_H d_ self o (Q .normal))
    (hK5 : dom_kids_l4_E5 d_ K5_ o (Q (.exit 5)))
    (hr : ∀ s, Ends a29.results 0 (dom_kids_post o) .ret s → Q .ret s) :
    Sv Tryd.prog (GG mL) 0 a29_c6 (dom_kids_q5 mL Q) ⟨(upd (upd (upd (upd (upd (upd (fun _ => none) 1 (some (.c (.ref 0 2 0 0)))) 3 (some (lstV zseen7 1 1 seen7.length))) 72 (some (.c (.ro false 6 (d_.Nodes.map e_TNode))))) 73 (some (I (d_.Nodes.length : Int)))) 74 (some (I v74))) 88 (some (B v88))), (upd (upd (fun _ => none) 0 (some (.cells 2 [[.ro false 6 (d_.Nodes.map e_TNode), cB d_.Quirks]]))) 1 (lstB zseen7 1 (seen7.map eB))), 2⟩ := by
  unfold dom_kids_j21 at h
  refine Sv.cond (b := v88) rfl (fun hc10 => ?_) (fun hc10 => ?_)
  · replace h := ifT hc10 h
    refine Sv.seq ?_
    refine Sv.region ?_
    refine un (a1 rfl ?_)
    refine dnil ?_
    refine Sv.ret ?_
    replace h := Option.some.inj h
    subst h
    exact hr _ ⟨_, .refl _, _, rfl, ⟨upd (fun _ => none) 0 (some (I 3)), (fun _ => none), 0⟩, (I 3), weak_canon [] rfl List.nodup_nil (Nat.le_refl _) (fun b h => absurd h (Nat.not_lt_zero _)) (.cons rfl (avAs_free rfl) .nil) .nil, rfl, rfl, rfl, rfl⟩
  · replace h := ifF hc10 h
    refine Sv.skip ?_
    refine Sv.region ?_
    refine un (a1 (v := (I (wi (v74 + 1)))) rfl ?_)
    refine un (a1 rfl ?_)
    refine dnil ?_
    exact hself seen7 (wi (v74 + 1)) zseen7 hzseen7 h _ (weak_canon [0, 1] rfl (by decide) (by decide) (fun b h => absurd h (Nat.not_lt_zero _)) (.cons rfl (avAs_free rfl) (.cons rfl (avAs_free rfl) (.cons rfl (avAs_free rfl) (.cons rfl (.c (lstC_ren rfl (by decide))) (.cons rfl (.c (.ref rfl (by decide))) .nil))))) (.row (by decide) rfl (fr_map fun _ => rfl) (.box (by decide) rfl (blkAs_cells (.cons (.same rfl) (.cons (.same rfl) .nil))) .nil)))
abbrev dom_kids_l4_I (d_ : TDoc) (F_ : Nat → (List Bool) → Int → Option Int) (o : Int) : Nat → St → Prop := fun k s => ∃ (seen6 : (List Bool)), ∃ (v74 : Int), ∃ (zseen6 : Bool), (zseen6 = true → seen6 = []) ∧ F_ k seen6 v74 = some o ∧ s = ⟨(upd (upd (upd (upd (upd (fun _ => none) 1 (some (.c (.ref 0 2 0 0)))) 3 (some (lstV zseen6 1 1 seen6.length))) 72 (some (.c (.ro false 6 (d_.Nodes.map e_TNode))))) 73 (some (I (d_.Nodes.length : Int)))) 74 (some (I v74))), (upd (upd (fun _ => none) 0 (some (.cells 2 [[.ro false 6 (d_.Nodes.map e_TNode), cB d_.Quirks]]))) 1 (lstB zseen6 1 (seen6.map eB))), 2⟩
noncomputable def dom_kids_l4 (d_ : TDoc) (K5_ : Unit → Option Int) : Nat → (List Bool) → Int → Option Int
  | 0, _, _ => none
  | k + 1, seen6, v74 =>
    if decide (v74 < (d_.Nodes.length : Int)) then
      (at? d_.Nodes v74).bind fun x_6 =>
      if (!decide (x_6.Parent = (-1))) then
        (at? seen6 v74).bind fun x_7 =>
        dom_kids_j21 v74 d_ (dom_kids_l4 d_ K5_ k) K5_ seen6 (!x_7)
      else
        dom_kids_j21 v74 d_ (dom_kids_l4 d_ K5_ k) K5_ seen6 false
    else
      K5_ ()
theorem dom_kids_l4_ok {mL : Int} {Q : AExit → St → Prop} {d_ : TDoc} {K5_ : Unit → Option Int} {k : Nat} {seen6 : (List Bool)} {v74 : Int} {zseen6 : Bool} (hzseen6 : zseen6 = true → seen6 = []) {o : Int} (h : dom_kids_l4 d_ K5_ k seen6 v74 = some o)
    (hK5 : dom_kids_l4_E5 d_ K5_ o (Q (.exit 5)))
    (hr : ∀ s, Ends a29.results 0 (dom_kids_post o) .ret s → Q .ret s) :
    Sv Tryd.prog (GG mL) 0 (.loop a29_c8) Q ⟨(upd (upd (upd (upd (upd (fun _ => none) 1 (some (.c (.ref 0 2 0 0)))) 3 (some (lstV zseen6 1 1 seen6.length))) 72 (some (.c (.ro false 6 (d_.Nodes.map e_TNode))))) 73 (some (I (d_.Nodes.length : Int)))) 74 (some (I v74))), (upd (upd (fun _ => none) 0 (some (.cells 2 [[.ro false 6 (d_.Nodes.map e_TNode), cB d_.Quirks]]))) 1 (lstB zseen6 1 (seen6.map eB))), 2⟩ := by
  refine Sv.loop (I := dom_kids_l4_I d_ (dom_kids_l4 d_ K5_) o) (fun k s hI => ?_) ⟨seen6, v74, zseen6, hzseen6, h, rfl⟩
  clear h
  clear hzseen6 zseen6 v74 seen6
  obtain ⟨seen6, v74, zseen6, hzseen6, h, rfl⟩ := hI
  cases k with
  | zero => cases h
  | succ k =>
  rw [dom_kids_l4] at h
  have hself : dom_kids_l4_H d_ (dom_kids_l4 d_ K5_ k) o (rnd 0 (dom_kids_l4_I d_ (dom_kids_l4 d_ K5_) o) k Q) := fun seen6 v74 zseen6 hzseen6 h s hw => ⟨_, k, hw, Nat.lt_succ_self k, seen6, v74, zseen6, hzseen6, h, rfl⟩
  refine Sv.seq ?_
  refine Sv.region ?_
  refine un (a1 (v := (B (decide (v74 < (d_.Nodes.length : Int))))) rfl ?_)
  refine dnil ?_
  refine Sv.seq ?_
  refine Sv.cond (b := decide (v74 < (d_.Nodes.length : Int))) rfl (fun hc9 => ?_) (fun hc9 => ?_)
  · replace h := ifT hc9 h
    refine Sv.skip ?_
    refine Sv.seq ?_
    refine Sv.block ?_
    refine Sv.seq ?_
    refine Sv.region ?_
    refine un (a1 rfl ?_)
    obtain ⟨x_6, hx8, h⟩ := bnd h
    refine un (a1 (v := (.c (.rop [cI x_6.Kind, .str x_6.Name, .ro false 2 (x_6.Attrs.map e_TAttr), .str x_6.Text, cI x_6.Parent, .ro false 1 (x_6.Kids.map eI)]))) (s_iaddr (e := e_TNode) (xs := d_.Nodes) rfl rfl hx8) ?_)
    refine un (a1 (v := (.agg [cI x_6.Kind, .str x_6.Name, .ro false 2 (x_6.Attrs.map e_TAttr), .str x_6.Text, cI x_6.Parent, .ro false 1 (x_6.Kids.map eI)])) rfl ?_)
    refine un (a2v (v := (.c (.ref 2 6 0 0))) (h' := upd _ 2 (some (.cells 6 [[cI 0, .str [], .ro true 2 [], .str [], cI 0, .ro true 1 []]]))) (n' := 3) rfl rfl (fun h => by cases h) ?_)
    refine un (a1 rfl ?_)
    refine un (a2n (h' := upd _ 2 (some (.cells 6 [[cI x_6.Kind, .str x_6.Name, .ro false 2 (x_6.Attrs.map e_TAttr), .str x_6.Text, cI x_6.Parent, .ro false 1 (x_6.Kids.map eI)]]))) (n' := 3) rfl rfl (fun h => by cases h) ?_)
    refine dnil ?_
    refine Sv.seq ?_
    refine Sv.region ?_
    refine un (a1 (v := (.c (.ref 2 6 0 4))) rfl ?_)
    refine un (a1 (v := (I x_6.Parent)) rfl ?_)
    refine un (a1 (v := (B (!decide (x_6.Parent = (-1))))) rfl ?_)
    refine un (a1 rfl ?_)
    refine split2 (fun hc11 => ?_) (fun hc11 => ?_)
    · replace h := ifT hc11 h
      refine gt rfl (a1 rfl ?_)
      refine gt rfl (a1 rfl ?_)
      obtain ⟨x_7, hx9, h⟩ := bnd h
      refine gt rfl (a1 (v := (.c (.ref 1 1 v74.toNat 0))) (s_iaddrL rfl rfl hzseen6 hx9) ?_)
      refine gt rfl (a1 (v := (B x_7)) (s_loadL (z := zseen6) (e := eB) rfl rfl hzseen6 hx9 rfl rfl) ?_)
      refine gt rfl (a1 (v := (B (!x_7))) rfl ?_)
      refine un (a1 (v := (B (!x_7))) rfl ?_)
      refine dnil ?_
      exact Sv.weak (weak_canon [0, 1] rfl (by decide) (by decide) (fun b h => absurd h (Nat.not_lt_zero _)) (.cons rfl (avAs_free rfl) (.cons rfl (avAs_free rfl) (.cons rfl (avAs_free rfl) (.cons rfl (avAs_free rfl) (.cons rfl (.c (lstC_ren rfl (by decide))) (.cons rfl (.c (.ref rfl (by decide))) .nil)))))) (.row (by decide) rfl (fr_map fun _ => rfl) (.box (by decide) rfl (blkAs_cells (.cons (.same rfl) (.cons (.same rfl) .nil))) .nil))) (dom_kids_j21_ok hzseen6 h hself hK5 hr)
    · replace h := ifF hc11 h
      refine gs rfl rfl ?_
      refine gs rfl rfl ?_
      refine gs rfl rfl ?_
      refine gs rfl rfl ?_
      refine gs rfl rfl ?_
      refine un (a1 (v := (B false)) rfl ?_)
      refine dnil ?_
      exact Sv.weak (weak_canon [0, 1] rfl (by decide) (by decide) (fun b h => absurd h (Nat.not_lt_zero _)) (.cons rfl (avAs_free rfl) (.cons rfl (avAs_free rfl) (.cons rfl (avAs_free rfl) (.cons rfl (avAs_free rfl) (.cons rfl (.c (lstC_ren rfl (by decide))) (.cons rfl (.c (.ref rfl (by decide))) .nil)))))) (.row (by decide) rfl (fr_map fun _ => rfl) (.box (by decide) rfl (blkAs_cells (.cons (.same rfl) (.cons (.same rfl) .nil))) .nil))) (dom_kids_j21_ok hzseen6 h hself hK5 hr)
  · replace h := ifF hc9 h
    refine Sv.exit ?_
    exact hK5 () h _ (weak_canon [0] rfl (by decide) (by decide) (fun b h => absurd h (Nat.not_lt_zero _)) (.cons rfl (.c (.ref rfl (by decide))) .nil) (.box (by decide) rfl (blkAs_cells (.cons (.same rfl) (.cons (.same rfl) .nil))) .nil))
/-- clerestory/dom.kids -/
noncomputable def dom_kids (d_ : TDoc) : Option Int :=
  (mkl? 1 (d_.Nodes.length : Int) (d_.Nodes.length : Int) (false : Bool)).bind fun row =>
  lim fun kk2 => dom_kids_l2 d_ (fun (seen1 : (List Bool)) => 
      lim fun kk1 => dom_kids_l4 d_ (fun (_ : Unit) => 
          (at? d_.Nodes 0).bind fun x_8 =>
          if (!decide (x_8.Parent = (-1))) then
            some 3
          else
            some 0) kk1 seen1 0) kk2 row 0
theorem dom_kids_ok {mL : Int} {d_ : TDoc} {r : Int} (h : dom_kids d_ = some r) : CPure Tryd.prog (GG mL) 29 [(.agg [.ro false 6 (d_.Nodes.map e_TNode), cB d_.Quirks])] (I r) := by
  refine acalls_of_sv hmix c29 (R := dom_kids_post r) ?_
  unfold dom_kids at h
  refine Sv.seq ?_
  refine Sv.region ?_
  refine un (a2v (v := (.c (.ref 0 2 0 0))) (h' := upd _ 0 (some (.cells 2 [[.ro false 6 (d_.Nodes.map e_TNode), cB d_.Quirks]]))) (n' := 1) rfl rfl (fun h => by cases h) ?_)
  refine un (a1 rfl ?_)
  refine dnil ?_
  refine Sv.seq ?_
  refine Sv.region ?_
  refine un (a1 (v := (.c (.ref 0 2 0 0))) rfl ?_)
  refine un (a1 (v := (.c (.ro false 6 (d_.Nodes.map e_TNode)))) rfl ?_)
  refine un (a1 (v := (I (d_.Nodes.length : Int))) (s_len (e := e_TNode) (xs := d_.Nodes) rfl) ?_)
  obtain ⟨row, hx1, h⟩ := bnd h
  refine un (a2mk (e := eB) rfl rfl hx1 (fun _ _ => (.cons (.same rfl) .nil)) ?_)
  refine un (a1 rfl ?_)
  refine dnil ?_
  refine Sv.seq ?_
  refine Sv.seq ?_
  refine Sv.region ?_
  refine un (a1 (v := (.c (.ref 0 2 0 0))) rfl ?_)
  refine un (a1 (v := (.c (.ro false 6 (d_.Nodes.map e_TNode)))) rfl ?_)
  refine un (a1 (v := (I (d_.Nodes.length : Int))) (s_len (e := e_TNode) (xs := d_.Nodes) rfl) ?_)
  refine un (a1 rfl ?_)
  refine dnil ?_
  refine Sv.block ?_
  obtain ⟨kk2, h⟩ := lim_some h
  refine Sv.weak (weak_canon [0, 1] rfl (by decide) (by decide) (fun b h => absurd h (Nat.not_lt_zero _)) (.cons rfl (avAs_free rfl) (.cons rfl (avAs_free rfl) (.cons rfl (avAs_free rfl) (.cons rfl (.c (lstC_ren rfl (by decide))) (.cons rfl (.c (.ref rfl (by decide))) .nil))))) (.row (by decide) rfl (fr_map fun _ => rfl) (.box (by decide) rfl (blkAs_cells (.cons (.same rfl) (.cons (.same rfl) .nil))) .nil))) (dom_kids_l2_ok (fun h => by cases h) h ?_ (fun s hs => hs))
  · intro seen1 zseen1 hzseen1 h _ hw2
    refine Sv.weak hw2 ?_
    refine Sv.seq ?_
    refine Sv.seq ?_
    refine Sv.region ?_
    refine un (a1 (v := (.c (.ref 0 2 0 0))) rfl ?_)
    refine un (a1 (v := (.c (.ro false 6 (d_.Nodes.map e_TNode)))) rfl ?_)
    refine un (a1 (v := (I (d_.Nodes.length : Int))) (s_len (e := e_TNode) (xs := d_.Nodes) rfl) ?_)
    refine un (a1 rfl ?_)
    refine dnil ?_
    refine Sv.block ?_
    obtain ⟨kk1, h⟩ := lim_some h
    refine Sv.weak (weak_canon [0, 1] rfl (by decide) (by decide) (fun b h => absurd h (Nat.not_lt_zero _)) (.cons rfl (avAs_free rfl) (.cons rfl (avAs_free rfl) (.cons rfl (avAs_free rfl) (.cons rfl (.c (lstC_ren rfl (by decide))) (.cons rfl (.c (.ref rfl (by decide))) .nil))))) (.row (by decide) rfl (fr_map fun _ => rfl) (.box (by decide) rfl (blkAs_cells (.cons (.same rfl) (.cons (.same rfl) .nil))) .nil))) (dom_kids_l4_ok hzseen1 h ?_ (fun s hs => hs))
    · intro _ h _ hw3
      refine Sv.weak hw3 ?_
      refine Sv.seq ?_
      refine Sv.seq ?_
      refine Sv.region ?_
      refine un (a1 (v := (.c (.ref 0 2 0 0))) rfl ?_)
      refine un (a1 (v := (.c (.ro false 6 (d_.Nodes.map e_TNode)))) rfl ?_)
      obtain ⟨x_8, hx10, h⟩ := bnd h
      refine un (a1 (v := (.c (.rop [cI x_8.Kind, .str x_8.Name, .ro false 2 (x_8.Attrs.map e_TAttr), .str x_8.Text, cI x_8.Parent, .ro false 1 (x_8.Kids.map eI)]))) (s_iaddr (e := e_TNode) (xs := d_.Nodes) rfl rfl hx10) ?_)
      refine un (a1 (v := (.c (.rop [cI x_8.Parent, .ro false 1 (x_8.Kids.map eI)]))) rfl ?_)
      refine un (a1 (v := (I x_8.Parent)) rfl ?_)
      refine un (a1 (v := (B (!decide (x_8.Parent = (-1))))) rfl ?_)
      refine dnil ?_
      refine Sv.cond (b := (!decide (x_8.Parent = (-1)))) rfl (fun hc12 => ?_) (fun hc12 => ?_)
      · replace h := ifT hc12 h
        refine Sv.seq ?_
        refine Sv.region ?_
        refine un (a1 rfl ?_)
        refine dnil ?_
        refine Sv.ret ?_
        replace h := Option.some.inj h
        subst h
        exact ⟨_, .refl _, _, rfl, ⟨upd (fun _ => none) 0 (some (I 3)), (fun _ => none), 0⟩, (I 3), weak_canon [] rfl List.nodup_nil (Nat.le_refl _) (fun b h => absurd h (Nat.not_lt_zero _)) (.cons rfl (avAs_free rfl) .nil) .nil, rfl, rfl, rfl, rfl⟩
      · replace h := ifF hc12 h
        refine Sv.skip ?_
        refine Sv.seq ?_
        refine Sv.region ?_
        refine un (a1 rfl ?_)
        refine dnil ?_
        refine Sv.ret ?_
        replace h := Option.some.inj h
        subst h
        exact ⟨_, .refl _, _, rfl, ⟨upd (fun _ => none) 0 (some (I 0)), (fun _ => none), 0⟩, (I 0), weak_canon [] rfl List.nodup_nil (Nat.le_refl _) (fun b h => absurd h (Nat.not_lt_zero _)) (.cons rfl (avAs_free rfl) .nil) .nil, rfl, rfl, rfl, rfl⟩
def a30_c0 : ACode := (.seq (.seq (.region [⟨(some 5), (.faddr 0 (.tmp 2)), none⟩, ⟨(some 6), (.load false 1 (.tmp 5)), none⟩, ⟨(some 7), (.mov (.tmp 1)), none⟩, ⟨(some 8), (.iaddr 6 (.tmp 6) (.tmp 7)), none⟩, ⟨(some 9), (.faddr 4 (.tmp 8)), none⟩, ⟨(some 10), (.load false 1 (.tmp 9)), none⟩, ⟨(some 11), (.bin .geq (.tmp 10) (.const (.c (.val (.int .i64 0))))), none⟩, ⟨(some 12), (.mov (.tmp 11)), none⟩, ⟨(some 13), (.mov (.tmp 4)), (some (12, true))⟩, ⟨(some 14), (.faddr 0 (.tmp 2)), (some (12, true))⟩, ⟨(some 15), (.load false 1 (.tmp 14)), (some (12, true))⟩, ⟨(some 16), (.len (.tmp 15)), (some (12, true))⟩, ⟨(some 17), (.bin .leq (.tmp 13) (.tmp 16)), (some (12, true))⟩, ⟨(some 18), (.pick (.tmp 12) (.tmp 17) (.const (.c (.val (.bool false))))), none⟩])
 (.cond (.tmp 18) .skip (.exit 0)))
 (.seq (.block 1 (.region [⟨(some 25), (.mov (.tmp 4)), none⟩, ⟨(some 26), (.bin .add (.tmp 25) (.const (.c (.val (.int .i64 1))))), none⟩, ⟨(some 4), (.mov (.tmp 26)), none⟩]))
 (.region [⟨(some 19), (.faddr 0 (.tmp 2)), none⟩, ⟨(some 20), (.load false 1 (.tmp 19)), none⟩, ⟨(some 21), (.mov (.tmp 1)), none⟩, ⟨(some 22), (.iaddr 6 (.tmp 20) (.tmp 21)), none⟩, ⟨(some 23), (.faddr 4 (.tmp 22)), none⟩, ⟨(some 24), (.load false 1 (.tmp 23)), none⟩, ⟨(some 1), (.mov (.tmp 24)), none⟩])))
def a30 : AFunc := ⟨2, [(.tmp 4)], (.seq (.region [⟨(some 2), (.box (.tmp 0)), none⟩, ⟨(some 4), (.mov (.const (.c (.val (.int .i64 0))))), none⟩])
 (.seq (.block 0 (.loop a30_c0))
 (.seq (.region [⟨(some 27), (.mov (.tmp 4)), none⟩, ⟨(some 4), (.mov (.tmp 27)), none⟩])
 .ret)))⟩
set_option maxRecDepth 100000 in
theorem c30 : compFunc Tryd.prog 30 = some a30 := by kernel_rfl
def dom_up_post (r : Int) : AV → Heap → Nat → Prop := fun v h' n' => v = (I r) ∧ (h' = (fun _ => none)) ∧ n' = 0
abbrev dom_up_l0_E0 (F_ : Int → Option Int) (o : Int) (R_ : St → Prop) : Prop := ∀ (many1 : Int), F_ many1 = some o → ∀ s, Weak 0 s ⟨(upd (fun _ => none) 4 (some (I many1))), (fun _ => none), 0⟩ → R_ s
abbrev dom_up_l0_I (d_ : TDoc) (F_ : Nat → Int → Int → Option Int) (o : Int) : Nat → St → Prop := fun k s => ∃ (n_1 : Int), ∃ (many : Int), F_ k n_1 many = some o ∧ s = ⟨(upd (upd (upd (fun _ => none) 1 (some (I n_1))) 2 (some (.c (.ref 0 2 0 0)))) 4 (some (I many))), (upd (fun _ => none) 0 (some (.cells 2 [[.ro false 6 (d_.Nodes.map e_TNode), cB d_.Quirks]]))), 1⟩
abbrev dom_up_l0_H (d_ : TDoc) (F_ : Int → Int → Option Int) (o : Int) (R_ : St → Prop) : Prop := ∀ (n_1 : Int) (many : Int), F_ n_1 many = some o → ∀ s, Weak 0 s ⟨(upd (upd (upd (fun _ => none) 1 (some (I n_1))) 2 (some (.c (.ref 0 2 0 0)))) 4 (some (I many))), (upd (fun _ => none) 0 (some (.cells 2 [[.ro false 6 (d_.Nodes.map e_TNode), cB d_.Quirks]]))), 1⟩ → R_ s
noncomputable def dom_up_l0 (d_ : TDoc) (K0_ : Int → Option Int) : Nat → Int → Int → Option Int
  | 0, _, _ => none
  | k + 1, n_1, many =>
    (at? d_.Nodes n_1).bind fun x_ =>
    if ((decide (0 ≤ x_.Parent)) && (decide (many ≤ (d_.Nodes.length : Int)))) then
      (at? d_.Nodes n_1).bind fun x_1 =>
      (dom_up_l0 d_ K0_ k) x_1.Parent (wi (many + 1))
    else
      K0_ many
theorem dom_up_l0_ok {mL : Int} {Q : AExit → St → Prop} {d_ : TDoc} {K0_ : Int → Option Int} {k : Nat} {n_1 : Int} {many : Int} {o : Int} (h : dom_up_l0 d_ K0_ k n_1 many = some o)
    (hK0 : dom_up_l0_E0 K0_ o (Q (.exit 0)))
    (hr : ∀ s, Ends a30.results 0 (dom_up_post o) .ret s → Q .ret s) :
    Sv Tryd.prog (GG mL) 0 (.loop a30_c0) Q ⟨(upd (upd (upd (fun _ => none) 1 (some (I n_1))) 2 (some (.c (.ref 0 2 0 0)))) 4 (some (I many))), (upd (fun _ => none) 0 (some (.cells 2 [[.ro false 6 (d_.Nodes.map e_TNode), cB d_.Quirks]]))), 1⟩ := by
  refine Sv.loop (I := dom_up_l0_I d_ (dom_up_l0 d_ K0_) o) (fun k s hI => ?_) ⟨n_1, many, h, rfl⟩
  clear h
  clear many n_1
  obtain ⟨n_1, many, h, rfl⟩ := hI
  cases k with
  | zero => cases h
  | succ k =>
  rw [dom_up_l0] at h
  have hself : dom_up_l0_H d_ (dom_up_l0 d_ K0_ k) o (rnd 0 (dom_up_l0_I d_ (dom_up_l0 d_ K0_) o) k Q) := fun n_1 many h s hw => ⟨_, k, hw, Nat.lt_succ_self k, n_1, many, h, rfl⟩
  refine Sv.seq ?_
  refine Sv.seq ?_
  refine Sv.region ?_
  refine un (a1 (v := (.c (.ref 0 2 0 0))) rfl ?_)
  refine un (a1 (v := (.c (.ro false 6 (d_.Nodes.map e_TNode)))) rfl ?_)
  refine un (a1 rfl ?_)
  obtain ⟨x_, hx1, h⟩ := bnd h
  refine un (a1 (v := (.c (.rop [cI x_.Kind, .str x_.Name, .ro false 2 (x_.Attrs.map e_TAttr), .str x_.Text, cI x_.Parent, .ro false 1 (x_.Kids.map eI)]))) (s_iaddr (e := e_TNode) (xs := d_.Nodes) rfl rfl hx1) ?_)
  refine un (a1 (v := (.c (.rop [cI x_.Parent, .ro false 1 (x_.Kids.map eI)]))) rfl ?_)
  refine un (a1 (v := (I x_.Parent)) rfl ?_)
  refine un (a1 (v := (B (decide (0 ≤ x_.Parent)))) rfl ?_)
  refine un (a1 rfl ?_)
  refine gjoin 6 (d := 18) (v := (B ((decide (0 ≤ x_.Parent)) && (decide (many ≤ (d_.Nodes.length : Int)))))) (fun X hX => ?_) ?_
  · refine split2 (fun hc1 => ?_) (fun hc1 => ?_)
    · refine gt rfl (a1 rfl ?_)
      refine gt rfl (a1 (v := (.c (.ref 0 2 0 0))) rfl ?_)
      refine gt rfl (a1 (v := (.c (.ro false 6 (d_.Nodes.map e_TNode)))) rfl ?_)
      refine gt rfl (a1 (v := (I (d_.Nodes.length : Int))) (s_len (e := e_TNode) (xs := d_.Nodes) rfl) ?_)
      refine gt rfl (a1 (v := (B (decide (many ≤ (d_.Nodes.length : Int))))) rfl ?_)
      refine un (a1 (v := (B (decide (many ≤ (d_.Nodes.length : Int))))) rfl ?_)
      refine dnil ?_
      exact hX _ (.putEq (by rw [hc1]; rfl) (.skip _ _ (.skip _ _ (.skip _ _ (.skip _ _ (.skip _ _ (.putEq (by rw [hc1]) (.refl _)) rfl) rfl) rfl) rfl) rfl))
    · refine gs rfl rfl ?_
      refine gs rfl rfl ?_
      refine gs rfl rfl ?_
      refine gs rfl rfl ?_
      refine gs rfl rfl ?_
      refine un (a1 (v := (B false)) rfl ?_)
      refine dnil ?_
      exact hX _ (.putEq (by rw [hc1]; rfl) (.skip _ _ (.skip _ _ (.skip _ _ (.skip _ _ (.skip _ _ (.putEq (by rw [hc1]) (.refl _)) rfl) rfl) rfl) rfl) rfl))
  refine dnil ?_
  refine Sv.cond (b := ((decide (0 ≤ x_.Parent)) && (decide (many ≤ (d_.Nodes.length : Int))))) rfl (fun hc2 => ?_) (fun hc2 => ?_)
  · replace h := ifT hc2 h
    refine Sv.skip ?_
    refine Sv.seq ?_
    refine Sv.block ?_
    refine Sv.region ?_
    refine un (a1 rfl ?_)
    refine un (a1 (v := (I (wi (many + 1)))) rfl ?_)
    refine un (a1 rfl ?_)
    refine dnil ?_
    refine Sv.region ?_
    refine un (a1 (v := (.c (.ref 0 2 0 0))) rfl ?_)
    refine un (a1 (v := (.c (.ro false 6 (d_.Nodes.map e_TNode)))) rfl ?_)
    refine un (a1 rfl ?_)
    obtain ⟨x_1, hx2, h⟩ := bnd h
    refine un (a1 (v := (.c (.rop [cI x_1.Kind, .str x_1.Name, .ro false 2 (x_1.Attrs.map e_TAttr), .str x_1.Text, cI x_1.Parent, .ro false 1 (x_1.Kids.map eI)]))) (s_iaddr (e := e_TNode) (xs := d_.Nodes) rfl rfl hx2) ?_)
    refine un (a1 (v := (.c (.rop [cI x_1.Parent, .ro false 1 (x_1.Kids.map eI)]))) rfl ?_)
    refine un (a1 (v := (I x_1.Parent)) rfl ?_)
    refine un (a1 rfl ?_)
    refine dnil ?_
    exact hself x_1.Parent (wi (many + 1)) h _ (weak_canon [0] rfl (by decide) (by decide) (fun b h => absurd h (Nat.not_lt_zero _)) (.cons rfl (avAs_free rfl) (.cons rfl (.c (.ref rfl (by decide))) (.cons rfl (avAs_free rfl) .nil))) (.box (by decide) rfl (blkAs_cells (.cons (.same rfl) (.cons (.same rfl) .nil))) .nil))
  · replace h := ifF hc2 h
    refine Sv.exit ?_
    exact hK0 many h _ (weak_canon [] rfl (by decide) (by decide) (fun b h => absurd h (Nat.not_lt_zero _)) (.cons rfl (avAs_free rfl) .nil) .nil)
/-- clerestory/dom.up -/
noncomputable def dom_up (d_ : TDoc) (n_ : Int) : Option Int :=
  lim fun kk => dom_up_l0 d_ (fun (many1 : Int) => 
      some many1) kk n_ 0
theorem dom_up_ok {mL : Int} {d_ : TDoc} {n_ : Int} {r : Int} (h : dom_up d_ n_ = some r) : CPure Tryd.prog (GG mL) 30 [(.agg [.ro false 6 (d_.Nodes.map e_TNode), cB d_.Quirks]), (I n_)] (I r) := by
  refine acalls_of_sv hmix c30 (R := dom_up_post r) ?_
  unfold dom_up at h
  refine Sv.seq ?_
  refine Sv.region ?_
  refine un (a2v (v := (.c (.ref 0 2 0 0))) (h' := upd _ 0 (some (.cells 2 [[.ro false 6 (d_.Nodes.map e_TNode), cB d_.Quirks]]))) (n' := 1) rfl rfl (fun h => by cases h) ?_)
  refine un (a1 rfl ?_)
  refine dnil ?_
  refine Sv.seq ?_
  refine Sv.block ?_
  obtain ⟨kk, h⟩ := lim_some h
  refine Sv.weak (weak_canon [0] rfl (by decide) (by decide) (fun b h => absurd h (Nat.not_lt_zero _)) (.cons rfl (avAs_free rfl) (.cons rfl (.c (.ref rfl (by decide))) (.cons rfl (avAs_free rfl) .nil))) (.box (by decide) rfl (blkAs_cells (.cons (.same rfl) (.cons (.same rfl) .nil))) .nil)) (dom_up_l0_ok h ?_ (fun s hs => hs))
  · intro many1 h _ hw1
    refine Sv.weak hw1 ?_
    refine Sv.seq ?_
    refine Sv.region ?_
    refine un (a1 rfl ?_)
    refine un (a1 rfl ?_)
    refine dnil ?_
    refine Sv.ret ?_
    replace h := Option.some.inj h
    subst h
    exact ⟨_, .refl _, _, rfl, ⟨upd (fun _ => none) 0 (some (I many1)), (fun _ => none), 0⟩, (I many1), weak_canon [] rfl List.nodup_nil (Nat.le_refl _) (fun b h => absurd h (Nat.not_lt_zero _)) (.cons rfl (avAs_free rfl) .nil) .nil, rfl, rfl, rfl, rfl⟩
def a14_c0 : ACode := (.seq (.region [⟨(some 23), (.bin .lss (.tmp 22) (.tmp 21)), none⟩])
 (.seq (.cond (.tmp 23) .skip (.exit 1))
 (.seq (.block 2 (.seq (.region [⟨(some 24), (.mov (.tmp 22)), none⟩, ⟨(some 25), (.iaddr 6 (.tmp 20) (.tmp 22)), none⟩, ⟨(some 26), (.load true 6 (.tmp 25)), none⟩, ⟨(some 4), (.box (.const (.agg [(.val (.int .i64 0)), (.str []), (.ro true 2 []), (.str []), (.val (.int .i64 0)), (.ro true 1 [])]))), none⟩, ⟨(some 3), (.mov (.tmp 24)), none⟩, ⟨none, (.store 6 (.tmp 4) (.tmp 26)), none⟩])
 (.seq (.seq (.region [⟨(some 27), (.faddr 0 (.tmp 4)), none⟩, ⟨(some 28), (.load false 1 (.tmp 27)), none⟩, ⟨(some 29), (.bin .eql (.tmp 28) (.const (.c (.val (.int .i64 1))))), none⟩, ⟨(some 30), (.mov (.tmp 3)), none⟩, ⟨(some 31), (.bin .eql (.tmp 30) (.const (.c (.val (.int .i64 0))))), none⟩, ⟨(some 32), (.eqs true false [.b] (.tmp 29) (.tmp 31)), none⟩])
 (.cond (.tmp 32) (.seq (.region [⟨(some 2), (.mov (.const (.c (.val (.int .i64 3))))), none⟩])
 .ret) .skip))
 (.seq (.region [⟨(some 33), (.load true 6 (.tmp 4)), none⟩, ⟨(some 34), (.call 28 [(.tmp 33)]), none⟩, ⟨(some 5), (.mov (.tmp 34)), none⟩])
 (.seq (.region [⟨(some 35), (.mov (.tmp 5)), none⟩, ⟨(some 36), (.bin .neq (.tmp 35) (.const (.c (.val (.int .i64 0))))), none⟩])
 (.cond (.tmp 36) (.seq (.region [⟨(some 37), (.mov (.tmp 5)), none⟩, ⟨(some 2), (.mov (.tmp 37)), none⟩])
 .ret) .skip))))))
 (.region [⟨(some 38), (.bin .add (.tmp 22) (.const (.c (.val (.int .i64 1))))), none⟩, ⟨(some 22), (.mov (.tmp 38)), none⟩]))))
def a14_c1 : ACode := (.seq (.region [⟨(some 48), (.bin .lss (.tmp 47) (.tmp 46)), none⟩])
 (.seq (.cond (.tmp 48) .skip (.exit 3))
 (.seq (.block 4 (.seq (.region [⟨(some 49), (.mov (.tmp 47)), none⟩, ⟨(some 7), (.mov (.tmp 49)), none⟩])
 (.seq (.region [⟨(some 50), (.load true 2 (.tmp 1)), none⟩, ⟨(some 51), (.mov (.tmp 7)), none⟩, ⟨(some 52), (.call 30 [(.tmp 50), (.tmp 51)]), none⟩, ⟨(some 8), (.mov (.tmp 52)), none⟩])
 (.block 5 (.seq (.region [⟨(some 54), (.mov (.tmp 8)), none⟩, ⟨(some 55), (.faddr 0 (.tmp 1)), none⟩, ⟨(some 56), (.load false 1 (.tmp 55)), none⟩, ⟨(some 57), (.len (.tmp 56)), none⟩, ⟨(some 58), (.bin .gtr (.tmp 54) (.tmp 57)), none⟩, ⟨(some 53), (.mov (.tmp 58)), none⟩])
 (.cond (.tmp 53) (.seq (.region [⟨(some 2), (.mov (.const (.c (.val (.int .i64 8))))), none⟩])
 .ret) (.seq (.region [⟨(some 60), (.mov (.tmp 8)), none⟩, ⟨(some 61), (.bin .gtr (.tmp 60) (.const (.c (.val (.int .i64 40))))), none⟩, ⟨(some 59), (.mov (.tmp 61)), none⟩])
 (.cond (.tmp 59) (.seq (.region [⟨(some 2), (.mov (.const (.c (.val (.int .i64 2))))), none⟩])
 .ret) .skip))))))))
 (.region [⟨(some 62), (.bin .add (.tmp 47) (.const (.c (.val (.int .i64 1))))), none⟩, ⟨(some 47), (.mov (.tmp 62)), none⟩]))))
def a14 : AFunc := ⟨1, [(.tmp 2)], (.seq (.region [⟨(some 1), (.box (.tmp 0)), none⟩, ⟨(some 2), (.mov (.const (.c (.val (.int .i64 0))))), none⟩])
 (.seq (.block 0 (.seq (.region [⟨(some 10), (.faddr 0 (.tmp 1)), none⟩, ⟨(some 11), (.load false 1 (.tmp 10)), none⟩, ⟨(some 12), (.len (.tmp 11)), none⟩, ⟨(some 13), (.bin .gtr (.tmp 12) (.const (.c (.val (.int .i64 200))))), none⟩, ⟨(some 9), (.mov (.tmp 13)), none⟩])
 (.cond (.tmp 9) (.seq (.region [⟨(some 2), (.mov (.const (.c (.val (.int .i64 2))))), none⟩])
 .ret) (.seq (.region [⟨(some 15), (.faddr 0 (.tmp 1)), none⟩, ⟨(some 16), (.load false 1 (.tmp 15)), none⟩, ⟨(some 17), (.len (.tmp 16)), none⟩, ⟨(some 18), (.bin .eql (.tmp 17) (.const (.c (.val (.int .i64 0))))), none⟩, ⟨(some 14), (.mov (.tmp 18)), none⟩])
 (.cond (.tmp 14) (.seq (.region [⟨(some 2), (.mov (.const (.c (.val (.int .i64 3))))), none⟩])
 .ret) .skip)))))
 (.seq (.seq (.region [⟨(some 19), (.faddr 0 (.tmp 1)), none⟩, ⟨(some 20), (.load false 1 (.tmp 19)), none⟩, ⟨(some 21), (.len (.tmp 20)), none⟩, ⟨(some 22), (.mov (.const (.c (.val (.int .i64 0))))), none⟩])
 (.block 1 (.loop a14_c0)))
 (.seq (.seq (.region [⟨(some 39), (.load true 2 (.tmp 1)), none⟩, ⟨(some 40), (.call 29 [(.tmp 39)]), none⟩, ⟨(some 6), (.mov (.tmp 40)), none⟩])
 (.seq (.region [⟨(some 41), (.mov (.tmp 6)), none⟩, ⟨(some 42), (.bin .neq (.tmp 41) (.const (.c (.val (.int .i64 0))))), none⟩])
 (.cond (.tmp 42) (.seq (.region [⟨(some 43), (.mov (.tmp 6)), none⟩, ⟨(some 2), (.mov (.tmp 43)), none⟩])
 .ret) .skip)))
 (.seq (.seq (.region [⟨(some 44), (.faddr 0 (.tmp 1)), none⟩, ⟨(some 45), (.load false 1 (.tmp 44)), none⟩, ⟨(some 46), (.len (.tmp 45)), none⟩, ⟨(some 47), (.mov (.const (.c (.val (.int .i64 0))))), none⟩])
 (.block 3 (.loop a14_c1)))
 (.seq (.region [⟨(some 2), (.mov (.const (.c (.val (.int .i64 0))))), none⟩])
 .ret))))))⟩
set_option maxRecDepth 100000 in
theorem c14 : compFunc Tryd.prog 14 = some a14 := by kernel_rfl
def dom_Check_post (r : Int) : AV → Heap → Nat → Prop := fun v h' n' => v = (I r) ∧ (h' = (fun _ => none)) ∧ n' = 0
abbrev dom_Check_l0_E1 (d_ : TDoc) (F_ : Unit → Option Int) (o : Int) (R_ : St → Prop) : Prop := ∀ (_ : Unit), F_ () = some o → ∀ s, Weak 0 s ⟨(upd (fun _ => none) 1 (some (.c (.ref 0 2 0 0)))), (upd (fun _ => none) 0 (some (.cells 2 [[.ro false 6 (d_.Nodes.map e_TNode), cB d_.Quirks]]))), 1⟩ → R_ s
abbrev dom_Check_l0_I (d_ : TDoc) (F_ : Nat → Int → Option Int) (o : Int) : Nat → St → Prop := fun k s => ∃ (v22 : Int), F_ k v22 = some o ∧ s = ⟨(upd (upd (upd (upd (fun _ => none) 1 (some (.c (.ref 0 2 0 0)))) 20 (some (.c (.ro false 6 (d_.Nodes.map e_TNode))))) 21 (some (I (d_.Nodes.length : Int)))) 22 (some (I v22))), (upd (fun _ => none) 0 (some (.cells 2 [[.ro false 6 (d_.Nodes.map e_TNode), cB d_.Quirks]]))), 1⟩
abbrev dom_Check_l0_H (d_ : TDoc) (F_ : Int → Option Int) (o : Int) (R_ : St → Prop) : Prop := ∀ (v22 : Int), F_ v22 = some o → ∀ s, Weak 0 s ⟨(upd (upd (upd (upd (fun _ => none) 1 (some (.c (.ref 0 2 0 0)))) 20 (some (.c (.ro false 6 (d_.Nodes.map e_TNode))))) 21 (some (I (d_.Nodes.length : Int)))) 22 (some (I v22))), (upd (fun _ => none) 0 (some (.cells 2 [[.ro false 6 (d_.Nodes.map e_TNode), cB d_.Quirks]]))), 1⟩ → R_ s
noncomputable def dom_Check_l0 (d_ : TDoc) (K1_ : Unit → Option Int) : Nat → Int → Option Int
  | 0, _ => none
  | k + 1, v22 =>
    if decide (v22 < (d_.Nodes.length : Int)) then
      (at? d_.Nodes v22).bind fun x_ =>
      if (!((decide (x_.Kind = 1) == decide (v22 = 0)) && true)) then
        some 3
      else
        (dom_one x_).bind fun r_ =>
        if (!decide (r_ = 0)) then
          some r_
        else
          (dom_Check_l0 d_ K1_ k) (wi (v22 + 1))
    else
      K1_ ()
theorem dom_Check_l0_ok {mL : Int} {Q : AExit → St → Prop} {d_ : TDoc} {K1_ : Unit → Option Int} {k : Nat} {v22 : Int} {o : Int} (h : dom_Check_l0 d_ K1_ k v22 = some o)
    (hK1 : dom_Check_l0_E1 d_ K1_ o (Q (.exit 1)))
    (hr : ∀ s, Ends a14.results 0 (dom_Check_post o) .ret s → Q .ret s) :
    Sv Tryd.prog (GG mL) 0 (.loop a14_c0) Q ⟨(upd (upd (upd (upd (fun _ => none) 1 (some (.c (.ref 0 2 0 0)))) 20 (some (.c (.ro false 6 (d_.Nodes.map e_TNode))))) 21 (some (I (d_.Nodes.length : Int)))) 22 (some (I v22))), (upd (fun _ => none) 0 (some (.cells 2 [[.ro false 6 (d_.Nodes.map e_TNode), cB d_.Quirks]]))), 1⟩ := by
  refine Sv.loop (I := dom_Check_l0_I d_ (dom_Check_l0 d_ K1_) o) (fun k s hI => ?_) ⟨v22, h, rfl⟩
  clear h
  clear v22
  obtain ⟨v22, h, rfl⟩ := hI
  cases k with
  | zero => cases h
  | succ k =>
  rw [dom_Check_l0] at h
  have hself : dom_Check_l0_H d_ (dom_Check_l0 d_ K1_ k) o (rnd 0 (dom_Check_l0_I d_ (dom_Check_l0 d_ K1_) o) k Q) := fun v22 h s hw => ⟨_, k, hw, Nat.lt_succ_self k, v22, h, rfl⟩
  refine Sv.seq ?_
  refine Sv.region ?_
  refine un (a1 (v := (B (decide (v22 < (d_.Nodes.length : Int))))) rfl ?_)
  refine dnil ?_
  refine Sv.seq ?_
  refine Sv.cond (b := decide (v22 < (d_.Nodes.length : Int))) rfl (fun hc3 => ?_) (fun hc3 => ?_)
  · replace h := ifT hc3 h
    refine Sv.skip ?_
    refine Sv.seq ?_
    refine Sv.block ?_
    refine Sv.seq ?_
    refine Sv.region ?_
    refine un (a1 rfl ?_)
    obtain ⟨x_, hx1, h⟩ := bnd h
    refine un (a1 (v := (.c (.rop [cI x_.Kind, .str x_.Name, .ro false 2 (x_.Attrs.map e_TAttr), .str x_.Text, cI x_.Parent, .ro false 1 (x_.Kids.map eI)]))) (s_iaddr (e := e_TNode) (xs := d_.Nodes) rfl rfl hx1) ?_)
    refine un (a1 (v := (.agg [cI x_.Kind, .str x_.Name, .ro false 2 (x_.Attrs.map e_TAttr), .str x_.Text, cI x_.Parent, .ro false 1 (x_.Kids.map eI)])) rfl ?_)
    refine un (a2v (v := (.c (.ref 1 6 0 0))) (h' := upd _ 1 (some (.cells 6 [[cI 0, .str [], .ro true 2 [], .str [], cI 0, .ro true 1 []]]))) (n' := 2) rfl rfl (fun h => by cases h) ?_)
    refine un (a1 rfl ?_)
    refine un (a2n (h' := upd _ 1 (some (.cells 6 [[cI x_.Kind, .str x_.Name, .ro false 2 (x_.Attrs.map e_TAttr), .str x_.Text, cI x_.Parent, .ro false 1 (x_.Kids.map eI)]]))) (n' := 2) rfl rfl (fun h => by cases h) ?_)
    refine dnil ?_
    refine Sv.seq ?_
    refine Sv.seq ?_
    refine Sv.region ?_
    refine un (a1 (v := (.c (.ref 1 6 0 0))) rfl ?_)
    refine un (a1 (v := (I x_.Kind)) rfl ?_)
    refine un (a1 (v := (B (decide (x_.Kind = 1)))) rfl ?_)
    refine un (a1 rfl ?_)
    refine un (a1 (v := (B (decide (v22 = 0)))) rfl ?_)
    refine un (a1 (v := (B (!((decide (x_.Kind = 1) == decide (v22 = 0)) && true)))) rfl ?_)
    refine dnil ?_
    refine Sv.cond (b := (!((decide (x_.Kind = 1) == decide (v22 = 0)) && true))) rfl (fun hc4 => ?_) (fun hc4 => ?_)
    · replace h := ifT hc4 h
      refine Sv.seq ?_
      refine Sv.region ?_
      refine un (a1 rfl ?_)
      refine dnil ?_
      refine Sv.ret ?_
      replace h := Option.some.inj h
      subst h
      exact hr _ ⟨_, .refl _, _, rfl, ⟨upd (fun _ => none) 0 (some (I 3)), (fun _ => none), 0⟩, (I 3), weak_canon [] rfl List.nodup_nil (Nat.le_refl _) (fun b h => absurd h (Nat.not_lt_zero _)) (.cons rfl (avAs_free rfl) .nil) .nil, rfl, rfl, rfl, rfl⟩
    · replace h := ifF hc4 h
      refine Sv.skip ?_
      refine Sv.seq ?_
      refine Sv.region ?_
      refine un (a1 (v := (.agg [cI x_.Kind, .str x_.Name, .ro false 2 (x_.Attrs.map e_TAttr), .str x_.Text, cI x_.Parent, .ro false 1 (x_.Kids.map eI)])) rfl ?_)
      obtain ⟨r_, hr1, h⟩ := bnd h
      refine un (ac_pure (dom_one_ok hr1) rfl rfl rfl ?_)
      refine un (a1 rfl ?_)
      refine dnil ?_
      refine Sv.seq ?_
      refine Sv.region ?_
      refine un (a1 rfl ?_)
      refine un (a1 (v := (B (!decide (r_ = 0)))) rfl ?_)
      refine dnil ?_
      refine Sv.cond (b := (!decide (r_ = 0))) rfl (fun hc5 => ?_) (fun hc5 => ?_)
      · replace h := ifT hc5 h
        refine Sv.seq ?_
        refine Sv.region ?_
        refine un (a1 rfl ?_)
        refine un (a1 rfl ?_)
        refine dnil ?_
        refine Sv.ret ?_
        replace h := Option.some.inj h
        subst h
        exact hr _ ⟨_, .refl _, _, rfl, ⟨upd (fun _ => none) 0 (some (I r_)), (fun _ => none), 0⟩, (I r_), weak_canon [] rfl List.nodup_nil (Nat.le_refl _) (fun b h => absurd h (Nat.not_lt_zero _)) (.cons rfl (avAs_free rfl) .nil) .nil, rfl, rfl, rfl, rfl⟩
      · replace h := ifF hc5 h
        refine Sv.skip ?_
        refine Sv.region ?_
        refine un (a1 (v := (I (wi (v22 + 1)))) rfl ?_)
        refine un (a1 rfl ?_)
        refine dnil ?_
        exact hself (wi (v22 + 1)) h _ (weak_canon [0] rfl (by decide) (by decide) (fun b h => absurd h (Nat.not_lt_zero _)) (.cons rfl (avAs_free rfl) (.cons rfl (avAs_free rfl) (.cons rfl (avAs_free rfl) (.cons rfl (.c (.ref rfl (by decide))) .nil)))) (.box (by decide) rfl (blkAs_cells (.cons (.same rfl) (.cons (.same rfl) .nil))) .nil))
  · replace h := ifF hc3 h
    refine Sv.exit ?_
    exact hK1 () h _ (weak_canon [0] rfl (by decide) (by decide) (fun b h => absurd h (Nat.not_lt_zero _)) (.cons rfl (.c (.ref rfl (by decide))) .nil) (.box (by decide) rfl (blkAs_cells (.cons (.same rfl) (.cons (.same rfl) .nil))) .nil))
abbrev dom_Check_l1_E3 (F_ : Unit → Option Int) (o : Int) (R_ : St → Prop) : Prop := ∀ (_ : Unit), F_ () = some o → ∀ s, Weak 0 s ⟨(fun _ => none), (fun _ => none), 0⟩ → R_ s
abbrev dom_Check_l1_I (d_ : TDoc) (F_ : Nat → Int → Option Int) (o : Int) : Nat → St → Prop := fun k s => ∃ (v47 : Int), F_ k v47 = some o ∧ s = ⟨(upd (upd (upd (fun _ => none) 1 (some (.c (.ref 0 2 0 0)))) 46 (some (I (d_.Nodes.length : Int)))) 47 (some (I v47))), (upd (fun _ => none) 0 (some (.cells 2 [[.ro false 6 (d_.Nodes.map e_TNode), cB d_.Quirks]]))), 1⟩
abbrev dom_Check_l1_H (d_ : TDoc) (F_ : Int → Option Int) (o : Int) (R_ : St → Prop) : Prop := ∀ (v47 : Int), F_ v47 = some o → ∀ s, Weak 0 s ⟨(upd (upd (upd (fun _ => none) 1 (some (.c (.ref 0 2 0 0)))) 46 (some (I (d_.Nodes.length : Int)))) 47 (some (I v47))), (upd (fun _ => none) 0 (some (.cells 2 [[.ro false 6 (d_.Nodes.map e_TNode), cB d_.Quirks]]))), 1⟩ → R_ s
noncomputable def dom_Check_l1 (d_ : TDoc) (K3_ : Unit → Option Int) : Nat → Int → Option Int
  | 0, _ => none
  | k + 1, v47 =>
    if decide (v47 < (d_.Nodes.length : Int)) then
      (dom_up d_ v47).bind fun r_2 =>
      if decide ((d_.Nodes.length : Int) < r_2) then
        some 8
      else
        if decide (40 < r_2) then
          some 2
        else
          (dom_Check_l1 d_ K3_ k) (wi (v47 + 1))
    else
      K3_ ()
theorem dom_Check_l1_ok {mL : Int} {Q : AExit → St → Prop} {d_ : TDoc} {K3_ : Unit → Option Int} {k : Nat} {v47 : Int} {o : Int} (h : dom_Check_l1 d_ K3_ k v47 = some o)
    (hK3 : dom_Check_l1_E3 K3_ o (Q (.exit 3)))
    (hr : ∀ s, Ends a14.results 0 (dom_Check_post o) .ret s → Q .ret s) :
    Sv Tryd.prog (GG mL) 0 (.loop a14_c1) Q ⟨(upd (upd (upd (fun _ => none) 1 (some (.c (.ref 0 2 0 0)))) 46 (some (I (d_.Nodes.length : Int)))) 47 (some (I v47))), (upd (fun _ => none) 0 (some (.cells 2 [[.ro false 6 (d_.Nodes.map e_TNode), cB d_.Quirks]]))), 1⟩ := by
  refine Sv.loop (I := dom_Check_l1_I d_ (dom_Check_l1 d_ K3_) o) (fun k s hI => ?_) ⟨v47, h, rfl⟩
  clear h
  clear v47
  obtain ⟨v47, h, rfl⟩ := hI
  cases k with
  | zero => cases h
  | succ k =>
  rw [dom_Check_l1] at h
  have hself : dom_Check_l1_H d_ (dom_Check_l1 d_ K3_ k) o (rnd 0 (dom_Check_l1_I d_ (dom_Check_l1 d_ K3_) o) k Q) := fun v47 h s hw => ⟨_, k, hw, Nat.lt_succ_self k, v47, h, rfl⟩
  refine Sv.seq ?_
  refine Sv.region ?_
  refine un (a1 (v := (B (decide (v47 < (d_.Nodes.length : Int))))) rfl ?_)
  refine dnil ?_
  refine Sv.seq ?_
  refine Sv.cond (b := decide (v47 < (d_.Nodes.length : Int))) rfl (fun hc7 => ?_) (fun hc7 => ?_)
  · replace h := ifT hc7 h
    refine Sv.skip ?_
    refine Sv.seq ?_
    refine Sv.block ?_
    refine Sv.seq ?_
    refine Sv.region ?_
    refine un (a1 rfl ?_)
    refine un (a1 rfl ?_)
    refine dnil ?_
    refine Sv.seq ?_
    refine Sv.region ?_
    refine un (a1 (v := (.agg [.ro false 6 (d_.Nodes.map e_TNode), cB d_.Quirks])) rfl ?_)
    refine un (a1 rfl ?_)
    obtain ⟨r_2, hr3, h⟩ := bnd h
    refine un (ac_pure (dom_up_ok hr3) rfl rfl rfl ?_)
    refine un (a1 rfl ?_)
    refine dnil ?_
    refine Sv.block ?_
    refine Sv.seq ?_
    refine Sv.region ?_
    refine un (a1 rfl ?_)
    refine un (a1 (v := (.c (.ref 0 2 0 0))) rfl ?_)
    refine un (a1 (v := (.c (.ro false 6 (d_.Nodes.map e_TNode)))) rfl ?_)
    refine un (a1 (v := (I (d_.Nodes.length : Int))) (s_len (e := e_TNode) (xs := d_.Nodes) rfl) ?_)
    refine un (a1 (v := (B (decide ((d_.Nodes.length : Int) < r_2)))) rfl ?_)
    refine un (a1 rfl ?_)
    refine dnil ?_
    refine Sv.cond (b := decide ((d_.Nodes.length : Int) < r_2)) rfl (fun hc8 => ?_) (fun hc8 => ?_)
    · replace h := ifT hc8 h
      refine Sv.seq ?_
      refine Sv.region ?_
      refine un (a1 rfl ?_)
      refine dnil ?_
      refine Sv.ret ?_
      replace h := Option.some.inj h
      subst h
      exact hr _ ⟨_, .refl _, _, rfl, ⟨upd (fun _ => none) 0 (some (I 8)), (fun _ => none), 0⟩, (I 8), weak_canon [] rfl List.nodup_nil (Nat.le_refl _) (fun b h => absurd h (Nat.not_lt_zero _)) (.cons rfl (avAs_free rfl) .nil) .nil, rfl, rfl, rfl, rfl⟩
    · replace h := ifF hc8 h
      refine Sv.seq ?_
      refine Sv.region ?_
      refine un (a1 rfl ?_)
      refine un (a1 (v := (B (decide (40 < r_2)))) rfl ?_)
      refine un (a1 rfl ?_)
      refine dnil ?_
      refine Sv.cond (b := decide (40 < r_2)) rfl (fun hc9 => ?_) (fun hc9 => ?_)
      · replace h := ifT hc9 h
        refine Sv.seq ?_
        refine Sv.region ?_
        refine un (a1 rfl ?_)
        refine dnil ?_
        refine Sv.ret ?_
        replace h := Option.some.inj h
        subst h
        exact hr _ ⟨_, .refl _, _, rfl, ⟨upd (fun _ => none) 0 (some (I 2)), (fun _ => none), 0⟩, (I 2), weak_canon [] rfl List.nodup_nil (Nat.le_refl _) (fun b h => absurd h (Nat.not_lt_zero _)) (.cons rfl (avAs_free rfl) .nil) .nil, rfl, rfl, rfl, rfl⟩
      · replace h := ifF hc9 h
        refine Sv.skip ?_
        refine Sv.region ?_
        refine un (a1 (v := (I (wi (v47 + 1)))) rfl ?_)
        refine un (a1 rfl ?_)
        refine dnil ?_
        exact hself (wi (v47 + 1)) h _ (weak_canon [0] rfl (by decide) (by decide) (fun b h => absurd h (Nat.not_lt_zero _)) (.cons rfl (avAs_free rfl) (.cons rfl (avAs_free rfl) (.cons rfl (.c (.ref rfl (by decide))) .nil))) (.box (by decide) rfl (blkAs_cells (.cons (.same rfl) (.cons (.same rfl) .nil))) .nil))
  · replace h := ifF hc7 h
    refine Sv.exit ?_
    exact hK3 () h _ (weak_canon [] rfl (by decide) (by decide) (fun b h => absurd h (Nat.not_lt_zero _)) .nil .nil)
/-- clerestory/dom.Check -/
noncomputable def dom_Check (d_ : TDoc) : Option Int :=
  if decide (200 < (d_.Nodes.length : Int)) then
    some 2
  else
    if decide ((d_.Nodes.length : Int) = 0) then
      some 3
    else
      lim fun kk1 => dom_Check_l0 d_ (fun (_ : Unit) => 
          (dom_kids d_).bind fun r_1 =>
          if (!decide (r_1 = 0)) then
            some r_1
          else
            lim fun kk => dom_Check_l1 d_ (fun (_ : Unit) => 
                some 0) kk 0) kk1 0
theorem dom_Check_ok {mL : Int} {d_ : TDoc} {r : Int} (h : dom_Check d_ = some r) : CPure Tryd.prog (GG mL) 14 [(.agg [.ro false 6 (d_.Nodes.map e_TNode), cB d_.Quirks])] (I r) := by
  refine acalls_of_sv hmix c14 (R := dom_Check_post r) ?_
  unfold dom_Check at h
  refine Sv.seq ?_
  refine Sv.region ?_
  refine un (a2v (v := (.c (.ref 0 2 0 0))) (h' := upd _ 0 (some (.cells 2 [[.ro false 6 (d_.Nodes.map e_TNode), cB d_.Quirks]]))) (n' := 1) rfl rfl (fun h => by cases h) ?_)
  refine un (a1 rfl ?_)
  refine dnil ?_
  refine Sv.seq ?_
  refine Sv.block ?_
  refine Sv.seq ?_
  refine Sv.region ?_
  refine un (a1 (v := (.c (.ref 0 2 0 0))) rfl ?_)
  refine un (a1 (v := (.c (.ro false 6 (d_.Nodes.map e_TNode)))) rfl ?_)
  refine un (a1 (v := (I (d_.Nodes.length : Int))) (s_len (e := e_TNode) (xs := d_.Nodes) rfl) ?_)
  refine un (a1 (v := (B (decide (200 < (d_.Nodes.length : Int))))) rfl ?_)
  refine un (a1 rfl ?_)
  refine dnil ?_
  refine Sv.cond (b := decide (200 < (d_.Nodes.length : Int))) rfl (fun hc1 => ?_) (fun hc1 => ?_)
  · replace h := ifT hc1 h
    refine Sv.seq ?_
    refine Sv.region ?_
    refine un (a1 rfl ?_)
    refine dnil ?_
    refine Sv.ret ?_
    replace h := Option.some.inj h
    subst h
    exact ⟨_, .refl _, _, rfl, ⟨upd (fun _ => none) 0 (some (I 2)), (fun _ => none), 0⟩, (I 2), weak_canon [] rfl List.nodup_nil (Nat.le_refl _) (fun b h => absurd h (Nat.not_lt_zero _)) (.cons rfl (avAs_free rfl) .nil) .nil, rfl, rfl, rfl, rfl⟩
  · replace h := ifF hc1 h
    refine Sv.seq ?_
    refine Sv.region ?_
    refine un (a1 (v := (.c (.ref 0 2 0 0))) rfl ?_)
    refine un (a1 (v := (.c (.ro false 6 (d_.Nodes.map e_TNode)))) rfl ?_)
    refine un (a1 (v := (I (d_.Nodes.length : Int))) (s_len (e := e_TNode) (xs := d_.Nodes) rfl) ?_)
    refine un (a1 (v := (B (decide ((d_.Nodes.length : Int) = 0)))) rfl ?_)
    refine un (a1 rfl ?_)
    refine dnil ?_
    refine Sv.cond (b := decide ((d_.Nodes.length : Int) = 0)) rfl (fun hc2 => ?_) (fun hc2 => ?_)
    · replace h := ifT hc2 h
      refine Sv.seq ?_
      refine Sv.region ?_
      refine un (a1 rfl ?_)
      refine dnil ?_
      refine Sv.ret ?_
      replace h := Option.some.inj h
      subst h
      exact ⟨_, .refl _, _, rfl, ⟨upd (fun _ => none) 0 (some (I 3)), (fun _ => none), 0⟩, (I 3), weak_canon [] rfl List.nodup_nil (Nat.le_refl _) (fun b h => absurd h (Nat.not_lt_zero _)) (.cons rfl (avAs_free rfl) .nil) .nil, rfl, rfl, rfl, rfl⟩
    · replace h := ifF hc2 h
      refine Sv.skip ?_
      refine Sv.seq ?_
      refine Sv.seq ?_
      refine Sv.region ?_
      refine un (a1 (v := (.c (.ref 0 2 0 0))) rfl ?_)
      refine un (a1 (v := (.c (.ro false 6 (d_.Nodes.map e_TNode)))) rfl ?_)
      refine un (a1 (v := (I (d_.Nodes.length : Int))) (s_len (e := e_TNode) (xs := d_.Nodes) rfl) ?_)
      refine un (a1 rfl ?_)
      refine dnil ?_
      refine Sv.block ?_
      obtain ⟨kk1, h⟩ := lim_some h
      refine Sv.weak (weak_canon [0] rfl (by decide) (by decide) (fun b h => absurd h (Nat.not_lt_zero _)) (.cons rfl (avAs_free rfl) (.cons rfl (avAs_free rfl) (.cons rfl (avAs_free rfl) (.cons rfl (.c (.ref rfl (by decide))) .nil)))) (.box (by decide) rfl (blkAs_cells (.cons (.same rfl) (.cons (.same rfl) .nil))) .nil)) (dom_Check_l0_ok h ?_ (fun s hs => hs))
      · intro _ h _ hw1
        refine Sv.weak hw1 ?_
        refine Sv.seq ?_
        refine Sv.seq ?_
        refine Sv.region ?_
        refine un (a1 (v := (.agg [.ro false 6 (d_.Nodes.map e_TNode), cB d_.Quirks])) rfl ?_)
        obtain ⟨r_1, hr2, h⟩ := bnd h
        refine un (ac_pure (dom_kids_ok hr2) rfl rfl rfl ?_)
        refine un (a1 rfl ?_)
        refine dnil ?_
        refine Sv.seq ?_
        refine Sv.region ?_
        refine un (a1 rfl ?_)
        refine un (a1 (v := (B (!decide (r_1 = 0)))) rfl ?_)
        refine dnil ?_
        refine Sv.cond (b := (!decide (r_1 = 0))) rfl (fun hc6 => ?_) (fun hc6 => ?_)
        · replace h := ifT hc6 h
          refine Sv.seq ?_
          refine Sv.region ?_
          refine un (a1 rfl ?_)
          refine un (a1 rfl ?_)
          refine dnil ?_
          refine Sv.ret ?_
          replace h := Option.some.inj h
          subst h
          exact ⟨_, .refl _, _, rfl, ⟨upd (fun _ => none) 0 (some (I r_1)), (fun _ => none), 0⟩, (I r_1), weak_canon [] rfl List.nodup_nil (Nat.le_refl _) (fun b h => absurd h (Nat.not_lt_zero _)) (.cons rfl (avAs_free rfl) .nil) .nil, rfl, rfl, rfl, rfl⟩
        · replace h := ifF hc6 h
          refine Sv.skip ?_
          refine Sv.seq ?_
          refine Sv.seq ?_
          refine Sv.region ?_
          refine un (a1 (v := (.c (.ref 0 2 0 0))) rfl ?_)
          refine un (a1 (v := (.c (.ro false 6 (d_.Nodes.map e_TNode)))) rfl ?_)
          refine un (a1 (v := (I (d_.Nodes.length : Int))) (s_len (e := e_TNode) (xs := d_.Nodes) rfl) ?_)
          refine un (a1 rfl ?_)
          refine dnil ?_
          refine Sv.block ?_
          obtain ⟨kk, h⟩ := lim_some h
          refine Sv.weak (weak_canon [0] rfl (by decide) (by decide) (fun b h => absurd h (Nat.not_lt_zero _)) (.cons rfl (avAs_free rfl) (.cons rfl (avAs_free rfl) (.cons rfl (.c (.ref rfl (by decide))) .nil))) (.box (by decide) rfl (blkAs_cells (.cons (.same rfl) (.cons (.same rfl) .nil))) .nil)) (dom_Check_l1_ok h ?_ (fun s hs => hs))
          · intro _ h _ hw2
            refine Sv.weak hw2 ?_
            refine Sv.seq ?_
            refine Sv.region ?_
            refine un (a1 rfl ?_)
            refine dnil ?_
            refine Sv.ret ?_
            replace h := Option.some.inj h
            subst h
            exact ⟨_, .refl _, _, rfl, ⟨upd (fun _ => none) 0 (some (I 0)), (fun _ => none), 0⟩, (I 0), weak_canon [] rfl List.nodup_nil (Nat.le_refl _) (fun b h => absurd h (Nat.not_lt_zero _)) (.cons rfl (avAs_free rfl) .nil) .nil, rfl, rfl, rfl, rfl⟩
def a15_c0 : ACode := (.seq (.seq (.region [⟨(some 7), (.mov (.tmp 2)), none⟩, ⟨(some 8), (.mov (.tmp 3)), none⟩, ⟨(some 9), (.bin .lss (.tmp 7) (.tmp 8)), none⟩])
 (.cond (.tmp 9) .skip (.exit 0)))
 (.seq (.block 1 (.drawn (.fin [(⟨(some 14), (.mov (.tmp 0)), none⟩, (0, 0)), (⟨(some 15), (.mov (.tmp 2)), none⟩, (0, 1)), (⟨(some 16), (.mov (.tmp 0)), none⟩, (0, 2)), (⟨(some 17), (.mov (.tmp 3)), none⟩, (0, 3)), (⟨(some 18), (.mov (.tmp 0)), none⟩, (0, 4)), (⟨(some 19), (.mov (.tmp 3)), none⟩, (0, 5)), (⟨(some 20), (.iaddr 1 (.tmp 18) (.tmp 19)), none⟩, (0, 6)), (⟨(some 21), (.load false 1 (.tmp 20)), none⟩, (0, 7)), (⟨(some 22), (.mov (.tmp 0)), none⟩, (0, 8)), (⟨(some 23), (.mov (.tmp 2)), none⟩, (0, 9)), (⟨(some 24), (.iaddr 1 (.tmp 22) (.tmp 23)), none⟩, (0, 10)), (⟨(some 25), (.load false 1 (.tmp 24)), none⟩, (0, 11)), (⟨(some 26), (.iaddr 1 (.tmp 14) (.tmp 15)), none⟩, (0, 12)), (⟨none, (.store 1 (.tmp 26) (.tmp 21)), none⟩, (2, 13)), (⟨(some 27), (.iaddr 1 (.tmp 16) (.tmp 17)), none⟩, (0, 14)), (⟨none, (.store 1 (.tmp 27) (.tmp 25)), none⟩, (2, 15))])))
 (.region [⟨(some 10), (.mov (.tmp 2)), none⟩, ⟨(some 11), (.bin .add (.tmp 10) (.const (.c (.val (.int .i64 1))))), none⟩, ⟨(some 12), (.mov (.tmp 3)), none⟩, ⟨(some 13), (.bin .sub (.tmp 12) (.const (.c (.val (.int .i64 1))))), none⟩, ⟨(some 2), (.mov (.tmp 11)), none⟩, ⟨(some 3), (.mov (.tmp 13)), none⟩])))
def a15 : AFunc := ⟨1, [], (.seq (.region [⟨(some 4), (.mov (.tmp 0)), none⟩, ⟨(some 5), (.len (.tmp 4)), none⟩, ⟨(some 6), (.bin .sub (.tmp 5) (.const (.c (.val (.int .i64 1))))), none⟩, ⟨(some 2), (.mov (.const (.c (.val (.int .i64 0))))), none⟩, ⟨(some 3), (.mov (.tmp 6)), none⟩])
 (.block 0 (.loop a15_c0)))⟩
set_option maxRecDepth 100000 in
theorem c15 : compFunc Tryd.prog 15 = some a15 := by kernel_rfl
def slices_Reverse_int_post (zs : Bool) (r : (List Int)) : AV → Heap → Nat → Prop := fun v h' n' => v = (.tup []) ∧ (h' = (upd (fun _ => none) 0 (lstB zs 1 (r.map eI)))) ∧ n' = 1
abbrev slices_Reverse_int_l0_E0 (zs : Bool) (F_ : (List Int) → Option (List Int)) (o : (List Int)) (R_ : St → Prop) : Prop := ∀ (s_2 : (List Int)) (_ : zs = true → s_2 = []), F_ s_2 = some o → ∀ s, Weak 1 s ⟨(upd (fun _ => none) 0 (some (lstV zs 0 1 s_2.length))), (upd (fun _ => none) 0 (lstB zs 1 (s_2.map eI))), 1⟩ → R_ s
abbrev slices_Reverse_int_l0_I (zs : Bool) (F_ : Nat → (List Int) → Int → Int → Option (List Int)) (o : (List Int)) : Nat → St → Prop := fun k s => ∃ (s_1 : (List Int)), ∃ (i_ : Int), ∃ (j_ : Int), (zs = true → s_1 = []) ∧ F_ k s_1 i_ j_ = some o ∧ s = ⟨(upd (upd (upd (fun _ => none) 0 (some (lstV zs 0 1 s_1.length))) 2 (some (I i_))) 3 (some (I j_))), (upd (fun _ => none) 0 (lstB zs 1 (s_1.map eI))), 1⟩
abbrev slices_Reverse_int_l0_H (zs : Bool) (F_ : (List Int) → Int → Int → Option (List Int)) (o : (List Int)) (R_ : St → Prop) : Prop := ∀ (s_1 : (List Int)) (i_ : Int) (j_ : Int) (_ : zs = true → s_1 = []), F_ s_1 i_ j_ = some o → ∀ s, Weak 1 s ⟨(upd (upd (upd (fun _ => none) 0 (some (lstV zs 0 1 s_1.length))) 2 (some (I i_))) 3 (some (I j_))), (upd (fun _ => none) 0 (lstB zs 1 (s_1.map eI))), 1⟩ → R_ s
noncomputable def slices_Reverse_int_l0 (K0_ : (List Int) → Option (List Int)) : Nat → (List Int) → Int → Int → Option (List Int)
  | 0, _, _, _ => none
  | k + 1, s_1, i_, j_ =>
    if decide (i_ < j_) then
      (at? s_1 j_).bind fun x_ =>
      (at? s_1 i_).bind fun x_1 =>
      (at? s_1 i_).bind fun x_2 =>
      (at? (s_1.set i_.toNat x_) j_).bind fun x_3 =>
      (slices_Reverse_int_l0 K0_ k) ((s_1.set i_.toNat x_).set j_.toNat x_1) (wi (i_ + 1)) (wi (j_ - 1))
    else
      K0_ s_1
theorem slices_Reverse_int_l0_ok {mL : Int} {Q : AExit → St → Prop} {zs : Bool} {K0_ : (List Int) → Option (List Int)} {k : Nat} {s_1 : (List Int)} {i_ : Int} {j_ : Int} (hzs1 : zs = true → s_1 = []) {o : (List Int)} (h : slices_Reverse_int_l0 K0_ k s_1 i_ j_ = some o)
    (hK0 : slices_Reverse_int_l0_E0 zs K0_ o (Q (.exit 0)))
    (hr : ∀ s, Ends a15.results 1 (slices_Reverse_int_post zs o) .ret s → Q .ret s) :
    Sv Tryd.prog (GG mL) 1 (.loop a15_c0) Q ⟨(upd (upd (upd (fun _ => none) 0 (some (lstV zs 0 1 s_1.length))) 2 (some (I i_))) 3 (some (I j_))), (upd (fun _ => none) 0 (lstB zs 1 (s_1.map eI))), 1⟩ := by
  refine Sv.loop (I := slices_Reverse_int_l0_I zs (slices_Reverse_int_l0 K0_) o) (fun k s hI => ?_) ⟨s_1, i_, j_, hzs1, h, rfl⟩
  clear h
  clear hzs1 j_ i_ s_1
  obtain ⟨s_1, i_, j_, hzs1, h, rfl⟩ := hI
  cases k with
  | zero => cases h
  | succ k =>
  rw [slices_Reverse_int_l0] at h
  have hself : slices_Reverse_int_l0_H zs (slices_Reverse_int_l0 K0_ k) o (rnd 1 (slices_Reverse_int_l0_I zs (slices_Reverse_int_l0 K0_) o) k Q) := fun s_1 i_ j_ hzs1 h s hw => ⟨_, k, hw, Nat.lt_succ_self k, s_1, i_, j_, hzs1, h, rfl⟩
  refine Sv.seq ?_
  refine Sv.seq ?_
  refine Sv.region ?_
  refine un (a1 rfl ?_)
  refine un (a1 rfl ?_)
  refine un (a1 (v := (B (decide (i_ < j_)))) rfl ?_)
  refine dnil ?_
  refine Sv.cond (b := decide (i_ < j_)) rfl (fun hc1 => ?_) (fun hc1 => ?_)
  · replace h := ifT hc1 h
    refine Sv.skip ?_
    refine Sv.seq ?_
    refine Sv.block ?_
    refine Sv.drawn ?_
    refine un (a1 rfl ?_)
    refine un (a1 rfl ?_)
    refine un (a1 rfl ?_)
    refine un (a1 rfl ?_)
    refine un (a1 rfl ?_)
    refine un (a1 rfl ?_)
    obtain ⟨x_, hx1, h⟩ := bnd h
    refine un (a1 (v := (.c (.ref 0 1 j_.toNat 0))) (s_iaddrL rfl rfl hzs1 hx1) ?_)
    refine un (a1 (v := (I x_)) (s_loadL (z := zs) (e := eI) rfl rfl hzs1 hx1 rfl rfl) ?_)
    refine un (a1 rfl ?_)
    refine un (a1 rfl ?_)
    obtain ⟨x_1, hx2, h⟩ := bnd h
    refine un (a1 (v := (.c (.ref 0 1 i_.toNat 0))) (s_iaddrL rfl rfl hzs1 hx2) ?_)
    refine un (a1 (v := (I x_1)) (s_loadL (z := zs) (e := eI) rfl rfl hzs1 hx2 rfl rfl) ?_)
    obtain ⟨x_2, hx3, h⟩ := bnd h
    refine un (a1 (v := (.c (.ref 0 1 i_.toNat 0))) (s_iaddrL rfl rfl hzs1 hx3) ?_)
    refine un (a2n (h' := upd _ 0 (lstB zs 1 ((s_1.set i_.toNat x_).map eI))) (n' := 1) rfl (s_storeL (e := eI) (q' := x_) rfl rfl hzs1 hx3 rfl rfl rfl (Nat.le_of_ble_eq_true rfl) rfl) (fun h => by cases h) ?_)
    try rw [len_set s_1 i_.toNat x_]
    obtain ⟨x_3, hx4, h⟩ := bnd h
    refine un (a1 (v := (.c (.ref 0 1 j_.toNat 0))) (s_iaddrL rfl rfl (hz_len hzs1 (len_set s_1 i_.toNat x_)) hx4) ?_)
    refine un (a2n (h' := upd _ 0 (lstB zs 1 (((s_1.set i_.toNat x_).set j_.toNat x_1).map eI))) (n' := 1) rfl (s_storeL (e := eI) (q' := x_1) rfl rfl (hz_len hzs1 (len_set s_1 i_.toNat x_)) hx4 rfl rfl rfl (Nat.le_of_ble_eq_true rfl) rfl) (fun h => by cases h) ?_)
    try rw [len_set (s_1.set i_.toNat x_) j_.toNat x_1]
    refine dnil ?_
    refine Sv.region ?_
    refine un (a1 rfl ?_)
    refine un (a1 (v := (I (wi (i_ + 1)))) rfl ?_)
    refine un (a1 rfl ?_)
    refine un (a1 (v := (I (wi (j_ - 1)))) rfl ?_)
    refine un (a1 rfl ?_)
    refine un (a1 rfl ?_)
    refine dnil ?_
    exact hself ((s_1.set i_.toNat x_).set j_.toNat x_1) (wi (i_ + 1)) (wi (j_ - 1)) (hz_len (hz_len hzs1 (len_set s_1 i_.toNat x_)) (len_set (s_1.set i_.toNat x_) j_.toNat x_1)) h _ (weak_canon [0] rfl (by decide) (by decide) (by decide) (.cons rfl (avAs_free rfl) (.cons rfl (avAs_free rfl) (.cons rfl (.c (lstC_ren rfl (by decide))) .nil))) (.row (by decide) rfl (fr_map fun _ => rfl) .nil))
  · replace h := ifF hc1 h
    refine Sv.exit ?_
    exact hK0 s_1 hzs1 h _ (weak_canon [0] rfl (by decide) (by decide) (by decide) (.cons rfl (.c (lstC_ren rfl (by decide))) .nil) (.row (by decide) rfl (fr_map fun _ => rfl) .nil))
/-- slices.Reverse(()int,int) -/
noncomputable def slices_Reverse_int (s_ : (List Int)) : Option (List Int) :=
  lim fun kk => slices_Reverse_int_l0 (fun (s_2 : (List Int)) => 
      some s_2) kk s_ 0 (wi ((s_.length : Int) - 1))
theorem slices_Reverse_int_ok {mL : Int} {s_ : (List Int)} {zs : Bool} (hzs : zs = true → s_ = []) {r : (List Int)} (h : slices_Reverse_int s_ = some r) : ACalls Tryd.prog (GG mL) 15 [(lstV zs 0 1 s_.length)] (upd (fun _ => none) 0 (lstB zs 1 (s_.map eI))) 1 (slices_Reverse_int_post zs r) := by
  refine acalls_of_sv hmix c15 (R := slices_Reverse_int_post zs r) ?_
  unfold slices_Reverse_int at h
  refine Sv.seq ?_
  refine Sv.region ?_
  refine un (a1 rfl ?_)
  refine un (a1 (v := (I (s_.length : Int))) (s_lenL rfl (len_nil_of hzs)) ?_)
  refine un (a1 (v := (I (wi ((s_.length : Int) - 1)))) rfl ?_)
  refine un (a1 rfl ?_)
  refine un (a1 rfl ?_)
  refine dnil ?_
  refine Sv.block ?_
  obtain ⟨kk, h⟩ := lim_some h
  refine Sv.weak (weak_canon [0] rfl (by decide) (by decide) (by decide) (.cons rfl (avAs_free rfl) (.cons rfl (avAs_free rfl) (.cons rfl (.c (lstC_ren rfl (by decide))) .nil))) (.row (by decide) rfl (fr_map fun _ => rfl) .nil)) (slices_Reverse_int_l0_ok hzs h ?_ (fun s hs => hs))
  · intro s_2 hzs2 h _ hw1
    replace h := Option.some.inj h
    subst h
    exact ⟨_, hw1, _, rfl, ⟨upd (fun _ => none) 0 (some (.tup [])), (upd (fun _ => none) 0 (lstB zs 1 (s_2.map eI))), 1⟩, (.tup []), weak_canon2 [0] [0] (by decide) (by decide) (by decide) (.cons (by decide) .nil) (.cons rfl (avAs_tup .nil) .nil) (.row (by decide) rfl (fr_map fun _ => rfl) .nil), rfl, rfl, rfl, rfl⟩
def a5_c0 : ACode := (.seq (.seq (.region [⟨(some 22), (.mov (.tmp 1)), none⟩, ⟨(some 23), (.bin .geq (.tmp 22) (.const (.c (.val (.int .i64 0))))), none⟩])
 (.cond (.tmp 23) .skip (.exit 0)))
 (.seq (.block 1 (.region [⟨(some 30), (.mov (.tmp 7)), none⟩, ⟨(some 31), (.mov (.tmp 1)), none⟩, ⟨(some 32), (.bslice 1 [(.val (.int .i64 0))] 1 [(0, (.tmp 31))]), none⟩, ⟨(some 33), (.app 1 8 (.tmp 30) (.tmp 32)), none⟩, ⟨(some 7), (.mov (.tmp 33)), none⟩]))
 (.region [⟨(some 24), (.faddr 0 (.tmp 2)), none⟩, ⟨(some 25), (.load false 1 (.tmp 24)), none⟩, ⟨(some 26), (.mov (.tmp 1)), none⟩, ⟨(some 27), (.iaddr 6 (.tmp 25) (.tmp 26)), none⟩, ⟨(some 28), (.faddr 4 (.tmp 27)), none⟩, ⟨(some 29), (.load false 1 (.tmp 28)), none⟩, ⟨(some 1), (.mov (.tmp 29)), none⟩])))
def a5 : AFunc := ⟨2, [(.tmp 4), (.tmp 5)], (.seq (.region [⟨(some 2), (.box (.tmp 0)), none⟩, ⟨(some 4), (.mov (.const (.c (.ro true 1 [])))), none⟩, ⟨(some 5), (.mov (.const (.c (.val (.int .i64 0))))), none⟩])
 (.seq (.seq (.region [⟨(some 8), (.load true 2 (.tmp 2)), none⟩, ⟨(some 9), (.call 14 [(.tmp 8)]), none⟩, ⟨(some 6), (.mov (.tmp 9)), none⟩])
 (.seq (.region [⟨(some 10), (.mov (.tmp 6)), none⟩, ⟨(some 11), (.bin .neq (.tmp 10) (.const (.c (.val (.int .i64 0))))), none⟩])
 (.cond (.tmp 11) (.seq (.region [⟨(some 12), (.mov (.tmp 6)), none⟩, ⟨(some 4), (.mov (.const (.c (.ro true 1 [])))), none⟩, ⟨(some 5), (.mov (.tmp 12)), none⟩])
 .ret) .skip)))
 (.seq (.seq (.region [⟨(some 13), (.mov (.tmp 1)), none⟩, ⟨(some 14), (.bin .lss (.tmp 13) (.const (.c (.val (.int .i64 0))))), none⟩, ⟨(some 15), (.mov (.tmp 14)), none⟩, ⟨(some 16), (.mov (.tmp 1)), (some (15, false))⟩, ⟨(some 17), (.faddr 0 (.tmp 2)), (some (15, false))⟩, ⟨(some 18), (.load false 1 (.tmp 17)), (some (15, false))⟩, ⟨(some 19), (.len (.tmp 18)), (some (15, false))⟩, ⟨(some 20), (.bin .geq (.tmp 16) (.tmp 19)), (some (15, false))⟩, ⟨(some 21), (.pick (.tmp 15) (.const (.c (.val (.bool true)))) (.tmp 20)), none⟩])
 (.cond (.tmp 21) (.seq (.region [⟨(some 4), (.mov (.const (.c (.ro true 1 [])))), none⟩, ⟨(some 5), (.mov (.const (.c (.val (.int .i64 1))))), none⟩])
 .ret) .skip))
 (.seq (.region [⟨(some 7), (.mov (.const (.c (.ro true 1 [])))), none⟩])
 (.seq (.block 0 (.loop a5_c0))
 (.seq (.region [⟨(some 34), (.mov (.tmp 7)), none⟩, ⟨(some 35), (.call 15 [(.tmp 34)]), none⟩])
 (.seq (.seq (.region [⟨(some 36), (.mov (.tmp 7)), none⟩, ⟨(some 37), (.iaddr 1 (.tmp 36) (.const (.c (.val (.int .i64 0))))), none⟩, ⟨(some 38), (.load false 1 (.tmp 37)), none⟩, ⟨(some 39), (.bin .neq (.tmp 38) (.const (.c (.val (.int .i64 0))))), none⟩])
 (.cond (.tmp 39) (.seq (.region [⟨(some 4), (.mov (.const (.c (.ro true 1 [])))), none⟩, ⟨(some 5), (.mov (.const (.c (.val (.int .i64 5))))), none⟩])
 .ret) .skip))
 (.seq (.region [⟨(some 40), (.mov (.tmp 7)), none⟩, ⟨(some 4), (.mov (.tmp 40)), none⟩, ⟨(some 5), (.mov (.const (.c (.val (.int .i64 0))))), none⟩])
 .ret))))))))⟩
set_option maxRecDepth 100000 in
theorem c5 : compFunc Tryd.prog 5 = some a5 := by kernel_rfl
def event_Path_post (r : ((List Int) × Int)) : AV → Heap → Nat → Prop := fun v h' n' => ∃ z0 : Bool, (z0 = true → r.1 = []) ∧ v = (.tup [(lstV z0 0 1 r.1.length), (I r.2)]) ∧ (h' = (upd (fun _ => none) 0 (lstB z0 1 (r.1.map eI)))) ∧ n' = 1
abbrev event_Path_l0_E0 (F_ : (List Int) → Option ((List Int) × Int)) (o : ((List Int) × Int)) (R_ : St → Prop) : Prop := ∀ (out1 : (List Int)) (zout1 : Bool) (_ : zout1 = true → out1 = []), F_ out1 = some o → ∀ s, Weak 0 s ⟨(upd (fun _ => none) 7 (some (lstV zout1 0 1 out1.length))), (upd (fun _ => none) 0 (lstB zout1 1 (out1.map eI))), 1⟩ → R_ s
abbrev event_Path_l0_I (d_ : TDoc) (F_ : Nat → Int → (List Int) → Option ((List Int) × Int)) (o : ((List Int) × Int)) : Nat → St → Prop := fun k s => ∃ (n_1 : Int), ∃ (out : (List Int)), ∃ (zout : Bool), (zout = true → out = []) ∧ F_ k n_1 out = some o ∧ s = ⟨(upd (upd (upd (fun _ => none) 1 (some (I n_1))) 2 (some (.c (.ref 0 2 0 0)))) 7 (some (lstV zout 1 1 out.length))), (upd (upd (fun _ => none) 0 (some (.cells 2 [[.ro false 6 (d_.Nodes.map e_TNode), cB d_.Quirks]]))) 1 (lstB zout 1 (out.map eI))), 2⟩
abbrev event_Path_l0_H (d_ : TDoc) (F_ : Int → (List Int) → Option ((List Int) × Int)) (o : ((List Int) × Int)) (R_ : St → Prop) : Prop := ∀ (n_1 : Int) (out : (List Int)) (zout : Bool) (_ : zout = true → out = []), F_ n_1 out = some o → ∀ s, Weak 0 s ⟨(upd (upd (upd (fun _ => none) 1 (some (I n_1))) 2 (some (.c (.ref 0 2 0 0)))) 7 (some (lstV zout 1 1 out.length))), (upd (upd (fun _ => none) 0 (some (.cells 2 [[.ro false 6 (d_.Nodes.map e_TNode), cB d_.Quirks]]))) 1 (lstB zout 1 (out.map eI))), 2⟩ → R_ s
noncomputable def event_Path_l0 (d_ : TDoc) (K0_ : (List Int) → Option ((List Int) × Int)) : Nat → Int → (List Int) → Option ((List Int) × Int)
  | 0, _, _ => none
  | k + 1, n_1, out =>
    if decide (0 ≤ n_1) then
      (app? 8 out [n_1]).bind fun r_1 =>
      (at? d_.Nodes n_1).bind fun x_ =>
      (event_Path_l0 d_ K0_ k) x_.Parent r_1
    else
      K0_ out
theorem event_Path_l0_ok {mL : Int} {Q : AExit → St → Prop} {d_ : TDoc} {K0_ : (List Int) → Option ((List Int) × Int)} {k : Nat} {n_1 : Int} {out : (List Int)} {zout : Bool} (hzout : zout = true → out = []) {o : ((List Int) × Int)} (h : event_Path_l0 d_ K0_ k n_1 out = some o)
    (hK0 : event_Path_l0_E0 K0_ o (Q (.exit 0)))
    (hr : ∀ s, Ends a5.results 0 (event_Path_post o) .ret s → Q .ret s) :
    Sv Tryd.prog (GG mL) 0 (.loop a5_c0) Q ⟨(upd (upd (upd (fun _ => none) 1 (some (I n_1))) 2 (some (.c (.ref 0 2 0 0)))) 7 (some (lstV zout 1 1 out.length))), (upd (upd (fun _ => none) 0 (some (.cells 2 [[.ro false 6 (d_.Nodes.map e_TNode), cB d_.Quirks]]))) 1 (lstB zout 1 (out.map eI))), 2⟩ := by
  refine Sv.loop (I := event_Path_l0_I d_ (event_Path_l0 d_ K0_) o) (fun k s hI => ?_) ⟨n_1, out, zout, hzout, h, rfl⟩
  clear h
  clear hzout zout out n_1
  obtain ⟨n_1, out, zout, hzout, h, rfl⟩ := hI
  cases k with
  | zero => cases h
  | succ k =>
  rw [event_Path_l0] at h
  have hself : event_Path_l0_H d_ (event_Path_l0 d_ K0_ k) o (rnd 0 (event_Path_l0_I d_ (event_Path_l0 d_ K0_) o) k Q) := fun n_1 out zout hzout h s hw => ⟨_, k, hw, Nat.lt_succ_self k, n_1, out, zout, hzout, h, rfl⟩
  refine Sv.seq ?_
  refine Sv.seq ?_
  refine Sv.region ?_
  refine un (a1 rfl ?_)
  refine un (a1 (v := (B (decide (0 ≤ n_1)))) rfl ?_)
  refine dnil ?_
  refine Sv.cond (b := decide (0 ≤ n_1)) rfl (fun hc4 => ?_) (fun hc4 => ?_)
  · replace h := ifT hc4 h
    refine Sv.skip ?_
    refine Sv.seq ?_
    refine Sv.block ?_
    refine Sv.region ?_
    refine un (a1 rfl ?_)
    refine un (a1 rfl ?_)
    refine un (a2v (v := (lstV false 2 1 [n_1].length)) (h' := upd _ 2 (lstB false 1 ([n_1].map eI))) (n' := 3) rfl rfl (fun h => by cases h) ?_)
    obtain ⟨r_1, hr2, h⟩ := bnd h
    have hz1 : (zout && [n_1].isEmpty) = true → r_1 = [] := app_nil (z := zout) (ys := [n_1]) hzout hr2
    refine un (a2v rfl (s_app (xs := out) (ys := [n_1]) (e := eI) (z := zout) (b := 1) rfl rfl hzout rfl rfl (slc_lst rfl (List.length_map _).symm (map_nil_of (fun h => by cases h))) hr2) (fun h => by cases h) ?_)
    refine un (a1 rfl ?_)
    refine dnil ?_
    refine Sv.region ?_
    refine un (a1 (v := (.c (.ref 0 2 0 0))) rfl ?_)
    refine un (a1 (v := (.c (.ro false 6 (d_.Nodes.map e_TNode)))) rfl ?_)
    refine un (a1 rfl ?_)
    obtain ⟨x_, hx1, h⟩ := bnd h
    refine un (a1 (v := (.c (.rop [cI x_.Kind, .str x_.Name, .ro false 2 (x_.Attrs.map e_TAttr), .str x_.Text, cI x_.Parent, .ro false 1 (x_.Kids.map eI)]))) (s_iaddr (e := e_TNode) (xs := d_.Nodes) rfl rfl hx1) ?_)
    refine un (a1 (v := (.c (.rop [cI x_.Parent, .ro false 1 (x_.Kids.map eI)]))) rfl ?_)
    refine un (a1 (v := (I x_.Parent)) rfl ?_)
    refine un (a1 rfl ?_)
    refine dnil ?_
    exact hself x_.Parent r_1 (zout && [n_1].isEmpty) hz1 h _ (weak_canon [0, 3] rfl (by decide) (by decide) (fun b h => absurd h (Nat.not_lt_zero _)) (.cons rfl (.c (lstC_ren rfl (by decide))) (.cons rfl (.c (.ref rfl (by decide))) (.cons rfl (avAs_free rfl) .nil))) (.row (by decide) rfl (fr_map fun _ => rfl) (.box (by decide) rfl (blkAs_cells (.cons (.same rfl) (.cons (.same rfl) .nil))) .nil)))
  · replace h := ifF hc4 h
    refine Sv.exit ?_
    exact hK0 out zout hzout h _ (weak_canon [1] rfl (by decide) (by decide) (fun b h => absurd h (Nat.not_lt_zero _)) (.cons rfl (.c (lstC_ren rfl (by decide))) .nil) (.row (by decide) rfl (fr_map fun _ => rfl) .nil))
/-- clerestory/event.Path -/
noncomputable def event_Path (d_ : TDoc) (n_ : Int) : Option ((List Int) × Int) :=
  (dom_Check d_).bind fun r_ =>
  if (!decide (r_ = 0)) then
    some (([] : List Int), r_)
  else
    if ((decide (n_ < 0)) || (decide ((d_.Nodes.length : Int) ≤ n_))) then
      some (([] : List Int), 1)
    else
      lim fun kk => event_Path_l0 d_ (fun (out1 : (List Int)) => 
          (slices_Reverse_int out1).bind fun r_2 =>
          guardLen out1 r_2 <|
          (at? r_2 0).bind fun x_1 =>
          if (!decide (x_1 = 0)) then
            some (([] : List Int), 5)
          else
            some (r_2, 0)) kk n_ ([] : List Int)
theorem event_Path_ok {mL : Int} {d_ : TDoc} {n_ : Int} {r : ((List Int) × Int)} (h : event_Path d_ n_ = some r) : ACalls Tryd.prog (GG mL) 5 [(.agg [.ro false 6 (d_.Nodes.map e_TNode), cB d_.Quirks]), (I n_)] (fun _ => none) 0 (event_Path_post r) := by
  refine acalls_of_sv hmix c5 (R := event_Path_post r) ?_
  unfold event_Path at h
  refine Sv.seq ?_
  refine Sv.region ?_
  refine un (a2v (v := (.c (.ref 0 2 0 0))) (h' := upd _ 0 (some (.cells 2 [[.ro false 6 (d_.Nodes.map e_TNode), cB d_.Quirks]]))) (n' := 1) rfl rfl (fun h => by cases h) ?_)
  refine un (a1 rfl ?_)
  refine un (a1 rfl ?_)
  refine dnil ?_
  refine Sv.seq ?_
  refine Sv.seq ?_
  refine Sv.region ?_
  refine un (a1 (v := (.agg [.ro false 6 (d_.Nodes.map e_TNode), cB d_.Quirks])) rfl ?_)
  obtain ⟨r_, hr1, h⟩ := bnd h
  refine un (ac_pure (dom_Check_ok hr1) rfl rfl rfl ?_)
  refine un (a1 rfl ?_)
  refine dnil ?_
  refine Sv.seq ?_
  refine Sv.region ?_
  refine un (a1 rfl ?_)
  refine un (a1 (v := (B (!decide (r_ = 0)))) rfl ?_)
  refine dnil ?_
  refine Sv.cond (b := (!decide (r_ = 0))) rfl (fun hc1 => ?_) (fun hc1 => ?_)
  · replace h := ifT hc1 h
    refine Sv.seq ?_
    refine Sv.region ?_
    refine un (a1 rfl ?_)
    refine un (a1 rfl ?_)
    refine un (a1 rfl ?_)
    refine dnil ?_
    refine Sv.ret ?_
    replace h := Option.some.inj h
    subst h
    exact ⟨_, .refl _, _, rfl, ⟨upd (fun _ => none) 0 (some (.tup [(lstV true 0 1 ([] : List Int).length), (I r_)])), (upd (fun _ => none) 0 (lstB true 1 (([] : List Int).map eI))), 1⟩, (.tup [(lstV true 0 1 ([] : List Int).length), (I r_)]), weak_canon2 [1000] [0] (by decide) (by decide) (fun b h => absurd h (Nat.not_lt_zero _)) (.cons (by decide) .nil) (.cons rfl (avAs_tup (.cons (.c (.same rfl)) (.cons (avAs_free rfl) .nil))) .nil) (.non (by decide) .nil), rfl, true, (fun _ => rfl), rfl, rfl, rfl⟩
  · replace h := ifF hc1 h
    refine Sv.skip ?_
    refine Sv.seq ?_
    refine Sv.seq ?_
    refine Sv.region ?_
    refine un (a1 rfl ?_)
    refine un (a1 (v := (B (decide (n_ < 0)))) rfl ?_)
    refine un (a1 rfl ?_)
    refine gjoin 6 (d := 21) (v := (B ((decide (n_ < 0)) || (decide ((d_.Nodes.length : Int) ≤ n_))))) (fun X hX => ?_) ?_
    · refine split2 (fun hc2 => ?_) (fun hc2 => ?_)
      · refine gs rfl rfl ?_
        refine gs rfl rfl ?_
        refine gs rfl rfl ?_
        refine gs rfl rfl ?_
        refine gs rfl rfl ?_
        refine un (a1 (v := (B true)) rfl ?_)
        refine dnil ?_
        exact hX _ (.putEq (by rw [hc2]; rfl) (.skip _ _ (.skip _ _ (.skip _ _ (.skip _ _ (.skip _ _ (.putEq (by rw [hc2]) (.refl _)) rfl) rfl) rfl) rfl) rfl))
      · refine gt rfl (a1 rfl ?_)
        refine gt rfl (a1 (v := (.c (.ref 0 2 0 0))) rfl ?_)
        refine gt rfl (a1 (v := (.c (.ro false 6 (d_.Nodes.map e_TNode)))) rfl ?_)
        refine gt rfl (a1 (v := (I (d_.Nodes.length : Int))) (s_len (e := e_TNode) (xs := d_.Nodes) rfl) ?_)
        refine gt rfl (a1 (v := (B (decide ((d_.Nodes.length : Int) ≤ n_)))) rfl ?_)
        refine un (a1 (v := (B (decide ((d_.Nodes.length : Int) ≤ n_)))) rfl ?_)
        refine dnil ?_
        exact hX _ (.putEq (by rw [hc2]; rfl) (.skip _ _ (.skip _ _ (.skip _ _ (.skip _ _ (.skip _ _ (.putEq (by rw [hc2]) (.refl _)) rfl) rfl) rfl) rfl) rfl))
    refine dnil ?_
    refine Sv.cond (b := ((decide (n_ < 0)) || (decide ((d_.Nodes.length : Int) ≤ n_)))) rfl (fun hc3 => ?_) (fun hc3 => ?_)
    · replace h := ifT hc3 h
      refine Sv.seq ?_
      refine Sv.region ?_
      refine un (a1 rfl ?_)
      refine un (a1 rfl ?_)
      refine dnil ?_
      refine Sv.ret ?_
      replace h := Option.some.inj h
      subst h
      exact ⟨_, .refl _, _, rfl, ⟨upd (fun _ => none) 0 (some (.tup [(lstV true 0 1 ([] : List Int).length), (I 1)])), (upd (fun _ => none) 0 (lstB true 1 (([] : List Int).map eI))), 1⟩, (.tup [(lstV true 0 1 ([] : List Int).length), (I 1)]), weak_canon2 [1000] [0] (by decide) (by decide) (fun b h => absurd h (Nat.not_lt_zero _)) (.cons (by decide) .nil) (.cons rfl (avAs_tup (.cons (.c (.same rfl)) (.cons (avAs_free rfl) .nil))) .nil) (.non (by decide) .nil), rfl, true, (fun _ => rfl), rfl, rfl, rfl⟩
    · replace h := ifF hc3 h
      refine Sv.skip ?_
      refine Sv.seq ?_
      refine Sv.region ?_
      refine un (a1 rfl ?_)
      refine dnil ?_
      refine Sv.seq ?_
      refine Sv.block ?_
      obtain ⟨kk, h⟩ := lim_some h
      refine Sv.weak (weak_canon [0, 1000] rfl (by decide) (by decide) (fun b h => absurd h (Nat.not_lt_zero _)) (.cons rfl (.c (.same rfl)) (.cons rfl (.c (.ref rfl (by decide))) (.cons rfl (avAs_free rfl) .nil))) (.non (by decide) (.box (by decide) rfl (blkAs_cells (.cons (.same rfl) (.cons (.same rfl) .nil))) .nil))) (event_Path_l0_ok (fun _ => rfl) h ?_ (fun s hs => hs))
      · intro out1 zout1 hzout1 h _ hw1
        refine Sv.weak hw1 ?_
        refine Sv.seq ?_
        refine Sv.region ?_
        refine un (a1 rfl ?_)
        obtain ⟨r_2, hr3, h⟩ := bnd h
        refine un (ac_gen (bs := [0]) («as» := [(lstV zout1 0 1 out1.length)]) (h2 := _) (h1 := (upd (fun _ => none) 0 (lstB zout1 1 (out1.map eI)))) (slices_Reverse_int_ok hzout1 hr3) rfl (.cons (.c (lstC_ren rfl (by decide))) .nil) (hsub_refl _) (.cons rfl (.nil _)) (fun h => by cases h) (by decide) (by decide) (.cons (.c (lstC_ren rfl (by decide))) .nil) (.row (by decide) rfl (fr_map fun _ => rfl) .nil) ?_)
        rintro _ _ _ hn ⟨rfl, rfl, rfl⟩
        refine ⟨.inl rfl, (upd (rem [0] _) 0 (lstB zout1 1 (r_2.map eI))), fun hbd => (m3_cons (m3_row rfl (fr_map fun _ => rfl)) (m3_rem (in_cons (by decide) (in_nil _)) (.cons (by decide) .nil) hbd)), (.tup []), 1, rfl, rfl, ?_⟩
        obtain ⟨hlen, h⟩ := guard_some h
        try rw [hlen]
        refine dnil ?_
        refine Sv.seq ?_
        refine Sv.seq ?_
        refine Sv.region ?_
        refine un (a1 rfl ?_)
        obtain ⟨x_1, hx2, h⟩ := bnd h
        refine un (a1 (v := (.c (.ref 0 1 (0 : Int).toNat 0))) (s_iaddrL rfl rfl (hz_len hzout1 hlen) hx2) ?_)
        refine un (a1 (v := (I x_1)) (s_loadL (z := zout1) (e := eI) rfl rfl (hz_len hzout1 hlen) hx2 rfl rfl) ?_)
        refine un (a1 (v := (B (!decide (x_1 = 0)))) rfl ?_)
        refine dnil ?_
        refine Sv.cond (b := (!decide (x_1 = 0))) rfl (fun hc5 => ?_) (fun hc5 => ?_)
        · replace h := ifT hc5 h
          refine Sv.seq ?_
          refine Sv.region ?_
          refine un (a1 rfl ?_)
          refine un (a1 rfl ?_)
          refine dnil ?_
          refine Sv.ret ?_
          replace h := Option.some.inj h
          subst h
          exact ⟨_, .refl _, _, rfl, ⟨upd (fun _ => none) 0 (some (.tup [(lstV true 0 1 ([] : List Int).length), (I 5)])), (upd (fun _ => none) 0 (lstB true 1 (([] : List Int).map eI))), 1⟩, (.tup [(lstV true 0 1 ([] : List Int).length), (I 5)]), weak_canon2 [1000] [0] (by decide) (by decide) (fun b h => absurd h (Nat.not_lt_zero _)) (.cons (by decide) .nil) (.cons rfl (avAs_tup (.cons (.c (.same rfl)) (.cons (avAs_free rfl) .nil))) .nil) (.non (by decide) .nil), rfl, true, (fun _ => rfl), rfl, rfl, rfl⟩
        · replace h := ifF hc5 h
          refine Sv.skip ?_
          refine Sv.seq ?_
          refine Sv.region ?_
          refine un (a1 rfl ?_)
          refine un (a1 rfl ?_)
          refine un (a1 rfl ?_)
          refine dnil ?_
          refine Sv.ret ?_
          replace h := Option.some.inj h
          subst h
          exact ⟨_, .refl _, _, rfl, ⟨upd (fun _ => none) 0 (some (.tup [(lstV zout1 0 1 r_2.length), (I 0)])), (upd (fun _ => none) 0 (lstB zout1 1 (r_2.map eI))), 1⟩, (.tup [(lstV zout1 0 1 r_2.length), (I 0)]), weak_canon2 [0] [0] (by decide) (by decide) (fun b h => absurd h (Nat.not_lt_zero _)) (.cons (by decide) .nil) (.cons rfl (avAs_tup (.cons (.c (lstC_ren rfl (by decide))) (.cons (avAs_free rfl) .nil))) .nil) (.row (by decide) rfl (fr_map fun _ => rfl) .nil), rfl, zout1, (hz_len hzout1 hlen), rfl, rfl, rfl⟩
def a16_c0 : ACode := (.seq (.region [⟨(some 25), (.bin .lss (.tmp 24) (.tmp 23)), none⟩])
 (.seq (.cond (.tmp 25) .skip (.exit 0))
 (.seq (.block 1 (.seq (.region [⟨(some 26), (.iaddr 8 (.tmp 22) (.tmp 24)), none⟩, ⟨(some 27), (.load true 8 (.tmp 26)), none⟩, ⟨(some 12), (.box (.const (.agg [(.val (.int .i64 0)), (.val (.int .i64 0)), (.str []), (.val (.bool false)), (.val (.bool false)), (.val (.bool false)), (.val (.bool false)), (.val (.bool false))]))), none⟩, ⟨none, (.store 8 (.tmp 12) (.tmp 27)), none⟩])
 (.seq (.seq (.region [⟨(some 28), (.faddr 1 (.tmp 12)), none⟩, ⟨(some 29), (.load false 1 (.tmp 28)), none⟩, ⟨(some 30), (.bin .lss (.tmp 29) (.const (.c (.val (.int .i64 0))))), none⟩, ⟨(some 31), (.mov (.tmp 30)), none⟩, ⟨(some 32), (.faddr 1 (.tmp 12)), (some (31, false))⟩, ⟨(some 33), (.load false 1 (.tmp 32)), (some (31, false))⟩, ⟨(some 34), (.faddr 0 (.tmp 3)), (some (31, false))⟩, ⟨(some 35), (.load false 1 (.tmp 34)), (some (31, false))⟩, ⟨(some 36), (.len (.tmp 35)), (some (31, false))⟩, ⟨(some 37), (.bin .geq (.tmp 33) (.tmp 36)), (some (31, false))⟩, ⟨(some 38), (.pick (.tmp 31) (.const (.c (.val (.bool true)))) (.tmp 37)), none⟩])
 (.cond (.tmp 38) (.seq (.region [⟨(some 6), (.mov (.const (.c (.ro true 1 [])))), none⟩, ⟨(some 7), (.mov (.const (.c (.val (.int .i64 1))))), none⟩])
 .ret) .skip))
 (.seq (.region [⟨(some 39), (.mov (.tmp 10)), none⟩, ⟨(some 40), (.mov (.tmp 39)), none⟩, ⟨(some 41), (.mov (.tmp 9)), (some (40, false))⟩, ⟨(some 42), (.faddr 0 (.tmp 12)), (some (40, false))⟩, ⟨(some 43), (.load false 1 (.tmp 42)), (some (40, false))⟩, ⟨(some 44), (.mlook (.i .i64) (.c (.val (.int .i64 0))) false (.tmp 41) (.tmp 43)), (some (40, false))⟩, ⟨(some 45), (.bin .eql (.tmp 44) (.const (.c (.val (.int .i64 1))))), (some (40, false))⟩, ⟨(some 46), (.pick (.tmp 40) (.const (.c (.val (.bool true)))) (.tmp 45)), none⟩, ⟨(some 10), (.mov (.tmp 46)), none⟩])
 (.region [⟨(some 47), (.mov (.tmp 9)), none⟩, ⟨(some 48), (.faddr 0 (.tmp 12)), none⟩, ⟨(some 49), (.load false 1 (.tmp 48)), none⟩, ⟨none, (.mput (.i .i64) (.tmp 47) (.tmp 49) (.const (.c (.val (.int .i64 1))))), none⟩])))))
 (.region [⟨(some 50), (.bin .add (.tmp 24) (.const (.c (.val (.int .i64 1))))), none⟩, ⟨(some 24), (.mov (.tmp 50)), none⟩]))))
def a16 : AFunc := ⟨3, [(.tmp 6), (.tmp 7)], (.seq (.region [⟨(some 3), (.box (.tmp 0)), none⟩, ⟨(some 5), (.box (.tmp 2)), none⟩, ⟨(some 6), (.mov (.const (.c (.ro true 1 [])))), none⟩, ⟨(some 7), (.mov (.const (.c (.val (.int .i64 0))))), none⟩])
 (.seq (.seq (.region [⟨(some 13), (.load true 2 (.tmp 3)), none⟩, ⟨(some 14), (.call 14 [(.tmp 13)]), none⟩, ⟨(some 8), (.mov (.tmp 14)), none⟩])
 (.seq (.region [⟨(some 15), (.mov (.tmp 8)), none⟩, ⟨(some 16), (.bin .neq (.tmp 15) (.const (.c (.val (.int .i64 0))))), none⟩])
 (.cond (.tmp 16) (.seq (.region [⟨(some 17), (.mov (.tmp 8)), none⟩, ⟨(some 6), (.mov (.const (.c (.ro true 1 [])))), none⟩, ⟨(some 7), (.mov (.tmp 17)), none⟩])
 .ret) .skip)))
 (.seq (.seq (.region [⟨(some 18), (.mov (.tmp 1)), none⟩, ⟨(some 19), (.len (.tmp 18)), none⟩, ⟨(some 20), (.bin .gtr (.tmp 19) (.const (.c (.val (.int .i64 60))))), none⟩])
 (.cond (.tmp 20) (.seq (.region [⟨(some 6), (.mov (.const (.c (.ro true 1 [])))), none⟩, ⟨(some 7), (.mov (.const (.c (.val (.int .i64 2))))), none⟩])
 .ret) .skip))
 (.seq (.region [⟨(some 21), (.mkmap (.i .i64)), none⟩, ⟨(some 9), (.mov (.tmp 21)), none⟩])
 (.seq (.region [⟨(some 10), (.mov (.const (.c (.val (.bool false))))), none⟩])
 (.seq (.seq (.region [⟨(some 22), (.mov (.tmp 1)), none⟩, ⟨(some 23), (.len (.tmp 22)), none⟩, ⟨(some 24), (.mov (.const (.c (.val (.int .i64 0))))), none⟩])
 (.block 0 (.loop a16_c0)))
 (.seq (.block 2 (.seq (.region [⟨(some 52), (.mov (.tmp 10)), none⟩, ⟨(some 51), (.mov (.tmp 52)), none⟩])
 (.cond (.tmp 51) (.seq (.region [⟨(some 6), (.mov (.const (.c (.ro true 1 [])))), none⟩, ⟨(some 7), (.mov (.const (.c (.val (.int .i64 6))))), none⟩])
 .ret) (.seq (.region [⟨(some 54), (.faddr 0 (.tmp 5)), none⟩, ⟨(some 55), (.load false 1 (.tmp 54)), none⟩, ⟨(some 56), (.bin .eql (.tmp 55) (.const (.c (.str [])))), none⟩, ⟨(some 57), (.mov (.tmp 56)), none⟩, ⟨(some 58), (.faddr 0 (.tmp 5)), (some (57, false))⟩, ⟨(some 59), (.load false 1 (.tmp 58)), (some (57, false))⟩, ⟨(some 60), (.lenS (.tmp 59)), (some (57, false))⟩, ⟨(some 61), (.bin .gtr (.tmp 60) (.const (.c (.val (.int .i64 40))))), (some (57, false))⟩, ⟨(some 62), (.pick (.tmp 57) (.const (.c (.val (.bool true)))) (.tmp 61)), none⟩, ⟨(some 53), (.mov (.tmp 62)), none⟩])
 (.cond (.tmp 53) (.seq (.region [⟨(some 6), (.mov (.const (.c (.ro true 1 [])))), none⟩, ⟨(some 7), (.mov (.const (.c (.val (.int .i64 3))))), none⟩])
 .ret) .skip)))))
 (.seq (.region [⟨(some 63), (.load true 2 (.tmp 3)), none⟩, ⟨(some 64), (.faddr 1 (.tmp 5)), none⟩, ⟨(some 65), (.load false 1 (.tmp 64)), none⟩, ⟨(some 66), (.call 5 [(.tmp 63), (.tmp 65)]), none⟩, ⟨(some 67), (.ext (.tmp 66) 0), none⟩, ⟨(some 68), (.ext (.tmp 66) 1), none⟩, ⟨(some 6), (.mov (.tmp 67)), none⟩, ⟨(some 7), (.mov (.tmp 68)), none⟩])
 .ret))))))))⟩
set_option maxRecDepth 100000 in
theorem c16 : compFunc Tryd.prog 16 = some a16 := by kernel_rfl
def event_asked_post (r : ((List Int) × Int)) : AV → Heap → Nat → Prop := fun v h' n' => ∃ z0 : Bool, (z0 = true → r.1 = []) ∧ v = (.tup [(lstV z0 0 1 r.1.length), (I r.2)]) ∧ (h' = (upd (fun _ => none) 0 (lstB z0 1 (r.1.map eI)))) ∧ n' = 1
abbrev event_asked_l0_E0 (d_ : TDoc) (e_ : TEvent) (F_ : Bool → Option ((List Int) × Int)) (o : ((List Int) × Int)) (R_ : St → Prop) : Prop := ∀ (twice1 : Bool), F_ twice1 = some o → ∀ s, Weak 0 s ⟨(upd (upd (upd (fun _ => none) 3 (some (.c (.ref 0 2 0 0)))) 5 (some (.c (.ref 1 7 0 0)))) 10 (some (B twice1))), (upd (upd (fun _ => none) 0 (some (.cells 2 [[.ro false 6 (d_.Nodes.map e_TNode), cB d_.Quirks]]))) 1 (some (.cells 7 [[.str e_.f_Type, cI e_.Target, cI e_.X, cI e_.Y, .str e_.Key, cB e_.Bubbles, cB e_.Cancels]]))), 2⟩ → R_ s
abbrev event_asked_l0_I (l_ : (List TListener)) (d_ : TDoc) (e_ : TEvent) (F_ : Nat → (List (Int × Int)) → Bool → Int → Option ((List Int) × Int)) (o : ((List Int) × Int)) : Nat → St → Prop := fun k s => ∃ (ids : (List (Int × Int))), ∃ (twice : Bool), ∃ (v24 : Int), F_ k ids twice v24 = some o ∧ s = ⟨(upd (upd (upd (upd (upd (upd (upd (fun _ => none) 3 (some (.c (.ref 0 2 0 0)))) 5 (some (.c (.ref 1 7 0 0)))) 9 (some (.c (.mp 2)))) 10 (some (B twice))) 22 (some (.c (.ro false 8 (l_.map e_TListener))))) 23 (some (I (l_.length : Int)))) 24 (some (I v24))), (upd (upd (upd (fun _ => none) 0 (some (.cells 2 [[.ro false 6 (d_.Nodes.map e_TNode), cB d_.Quirks]]))) 1 (some (.cells 7 [[.str e_.f_Type, cI e_.Target, cI e_.X, cI e_.Y, .str e_.Key, cB e_.Bubbles, cB e_.Cancels]]))) 2 (mapB (.i .i64) (fun x => cI x) (fun (x : Int) => (I x)) ids)), 3⟩
abbrev event_asked_l0_H (l_ : (List TListener)) (d_ : TDoc) (e_ : TEvent) (F_ : (List (Int × Int)) → Bool → Int → Option ((List Int) × Int)) (o : ((List Int) × Int)) (R_ : St → Prop) : Prop := ∀ (ids : (List (Int × Int))) (twice : Bool) (v24 : Int), F_ ids twice v24 = some o → ∀ s, Weak 0 s ⟨(upd (upd (upd (upd (upd (upd (upd (fun _ => none) 3 (some (.c (.ref 0 2 0 0)))) 5 (some (.c (.ref 1 7 0 0)))) 9 (some (.c (.mp 2)))) 10 (some (B twice))) 22 (some (.c (.ro false 8 (l_.map e_TListener))))) 23 (some (I (l_.length : Int)))) 24 (some (I v24))), (upd (upd (upd (fun _ => none) 0 (some (.cells 2 [[.ro false 6 (d_.Nodes.map e_TNode), cB d_.Quirks]]))) 1 (some (.cells 7 [[.str e_.f_Type, cI e_.Target, cI e_.X, cI e_.Y, .str e_.Key, cB e_.Bubbles, cB e_.Cancels]]))) 2 (mapB (.i .i64) (fun x => cI x) (fun (x : Int) => (I x)) ids)), 3⟩ → R_ s
noncomputable def event_asked_l0 (l_ : (List TListener)) (d_ : TDoc) (e_ : TEvent) (K0_ : Bool → Option ((List Int) × Int)) : Nat → (List (Int × Int)) → Bool → Int → Option ((List Int) × Int)
  | 0, _, _, _ => none
  | k + 1, ids, twice, v24 =>
    if decide (v24 < (l_.length : Int)) then
      (at? l_ v24).bind fun x_ =>
      if ((decide (x_.Node < 0)) || (decide ((d_.Nodes.length : Int) ≤ x_.Node))) then
        some (([] : List Int), 1)
      else
        letIn (mset ids x_.ID 1) fun mp : (List (Int × Int)) =>
        (event_asked_l0 l_ d_ e_ K0_ k) mp (twice || (decide (((mget ids x_.ID).getD (0 : Int)) = 1))) (wi (v24 + 1))
    else
      K0_ twice
theorem event_asked_l0_ok {mL : Int} {Q : AExit → St → Prop} {l_ : (List TListener)} {d_ : TDoc} {e_ : TEvent} {K0_ : Bool → Option ((List Int) × Int)} {k : Nat} {ids : (List (Int × Int))} {twice : Bool} {v24 : Int} {o : ((List Int) × Int)} (h : event_asked_l0 l_ d_ e_ K0_ k ids twice v24 = some o)
    (hK0 : event_asked_l0_E0 d_ e_ K0_ o (Q (.exit 0)))
    (hr : ∀ s, Ends a16.results 0 (event_asked_post o) .ret s → Q .ret s) :
    Sv Tryd.prog (GG mL) 0 (.loop a16_c0) Q ⟨(upd (upd (upd (upd (upd (upd (upd (fun _ => none) 3 (some (.c (.ref 0 2 0 0)))) 5 (some (.c (.ref 1 7 0 0)))) 9 (some (.c (.mp 2)))) 10 (some (B twice))) 22 (some (.c (.ro false 8 (l_.map e_TListener))))) 23 (some (I (l_.length : Int)))) 24 (some (I v24))), (upd (upd (upd (fun _ => none) 0 (some (.cells 2 [[.ro false 6 (d_.Nodes.map e_TNode), cB d_.Quirks]]))) 1 (some (.cells 7 [[.str e_.f_Type, cI e_.Target, cI e_.X, cI e_.Y, .str e_.Key, cB e_.Bubbles, cB e_.Cancels]]))) 2 (mapB (.i .i64) (fun x => cI x) (fun (x : Int) => (I x)) ids)), 3⟩ := by
  refine Sv.loop (I := event_asked_l0_I l_ d_ e_ (event_asked_l0 l_ d_ e_ K0_) o) (fun k s hI => ?_) ⟨ids, twice, v24, h, rfl⟩
  clear h
  clear v24 twice ids
  obtain ⟨ids, twice, v24, h, rfl⟩ := hI
  cases k with
  | zero => cases h
  | succ k =>
  rw [event_asked_l0] at h
  have hself : event_asked_l0_H l_ d_ e_ (event_asked_l0 l_ d_ e_ K0_ k) o (rnd 0 (event_asked_l0_I l_ d_ e_ (event_asked_l0 l_ d_ e_ K0_) o) k Q) := fun ids twice v24 h s hw => ⟨_, k, hw, Nat.lt_succ_self k, ids, twice, v24, h, rfl⟩
  refine Sv.seq ?_
  refine Sv.region ?_
  refine un (a1 (v := (B (decide (v24 < (l_.length : Int))))) rfl ?_)
  refine dnil ?_
  refine Sv.seq ?_
  refine Sv.cond (b := decide (v24 < (l_.length : Int))) rfl (fun hc3 => ?_) (fun hc3 => ?_)
  · replace h := ifT hc3 h
    refine Sv.skip ?_
    refine Sv.seq ?_
    refine Sv.block ?_
    refine Sv.seq ?_
    refine Sv.region ?_
    obtain ⟨x_, hx1, h⟩ := bnd h
    refine un (a1 (v := (.c (.rop [cI x_.ID, cI x_.Node, .str x_.f_Type, cB x_.Capture, cB x_.Once, cB x_.Stops, cB x_.StopsAll, cB x_.Prevents]))) (s_iaddr (e := e_TListener) (xs := l_) rfl rfl hx1) ?_)
    refine un (a1 (v := (.agg [cI x_.ID, cI x_.Node, .str x_.f_Type, cB x_.Capture, cB x_.Once, cB x_.Stops, cB x_.StopsAll, cB x_.Prevents])) rfl ?_)
    refine un (a2v (v := (.c (.ref 3 8 0 0))) (h' := upd _ 3 (some (.cells 8 [[cI 0, cI 0, .str [], cB false, cB false, cB false, cB false, cB false]]))) (n' := 4) rfl rfl (fun h => by cases h) ?_)
    refine un (a2n (h' := upd _ 3 (some (.cells 8 [[cI x_.ID, cI x_.Node, .str x_.f_Type, cB x_.Capture, cB x_.Once, cB x_.Stops, cB x_.StopsAll, cB x_.Prevents]]))) (n' := 4) rfl rfl (fun h => by cases h) ?_)
    refine dnil ?_
    refine Sv.seq ?_
    refine Sv.seq ?_
    refine Sv.region ?_
    refine un (a1 (v := (.c (.ref 3 8 0 1))) rfl ?_)
    refine un (a1 (v := (I x_.Node)) rfl ?_)
    refine un (a1 (v := (B (decide (x_.Node < 0)))) rfl ?_)
    refine un (a1 rfl ?_)
    refine gjoin 7 (d := 38) (v := (B ((decide (x_.Node < 0)) || (decide ((d_.Nodes.length : Int) ≤ x_.Node))))) (fun X hX => ?_) ?_
    · refine split2 (fun hc4 => ?_) (fun hc4 => ?_)
      · refine gs rfl rfl ?_
        refine gs rfl rfl ?_
        refine gs rfl rfl ?_
        refine gs rfl rfl ?_
        refine gs rfl rfl ?_
        refine gs rfl rfl ?_
        refine un (a1 (v := (B true)) rfl ?_)
        refine dnil ?_
        exact hX _ (.putEq (by rw [hc4]; rfl) (.skip _ _ (.skip _ _ (.skip _ _ (.skip _ _ (.skip _ _ (.skip _ _ (.putEq (by rw [hc4]) (.refl _)) rfl) rfl) rfl) rfl) rfl) rfl))
      · refine gt rfl (a1 (v := (.c (.ref 3 8 0 1))) rfl ?_)
        refine gt rfl (a1 (v := (I x_.Node)) rfl ?_)
        refine gt rfl (a1 (v := (.c (.ref 0 2 0 0))) rfl ?_)
        refine gt rfl (a1 (v := (.c (.ro false 6 (d_.Nodes.map e_TNode)))) rfl ?_)
        refine gt rfl (a1 (v := (I (d_.Nodes.length : Int))) (s_len (e := e_TNode) (xs := d_.Nodes) rfl) ?_)
        refine gt rfl (a1 (v := (B (decide ((d_.Nodes.length : Int) ≤ x_.Node)))) rfl ?_)
        refine un (a1 (v := (B (decide ((d_.Nodes.length : Int) ≤ x_.Node)))) rfl ?_)
        refine dnil ?_
        exact hX _ (.putEq (by rw [hc4]; rfl) (.skip _ _ (.skip _ _ (.skip _ _ (.skip _ _ (.skip _ _ (.skip _ _ (.putEq (by rw [hc4]) (.refl _)) rfl) rfl) rfl) rfl) rfl) rfl))
    refine dnil ?_
    refine Sv.cond (b := ((decide (x_.Node < 0)) || (decide ((d_.Nodes.length : Int) ≤ x_.Node)))) rfl (fun hc5 => ?_) (fun hc5 => ?_)
    · replace h := ifT hc5 h
      refine Sv.seq ?_
      refine Sv.region ?_
      refine un (a1 rfl ?_)
      refine un (a1 rfl ?_)
      refine dnil ?_
      refine Sv.ret ?_
      replace h := Option.some.inj h
      subst h
      exact hr _ ⟨_, .refl _, _, rfl, ⟨upd (fun _ => none) 0 (some (.tup [(lstV true 0 1 ([] : List Int).length), (I 1)])), (upd (fun _ => none) 0 (lstB true 1 (([] : List Int).map eI))), 1⟩, (.tup [(lstV true 0 1 ([] : List Int).length), (I 1)]), weak_canon2 [1000] [0] (by decide) (by decide) (fun b h => absurd h (Nat.not_lt_zero _)) (.cons (by decide) .nil) (.cons rfl (avAs_tup (.cons (.c (.same rfl)) (.cons (avAs_free rfl) .nil))) .nil) (.non (by decide) .nil), rfl, true, (fun _ => rfl), rfl, rfl, rfl⟩
    · replace h := ifF hc5 h
      refine Sv.skip ?_
      refine Sv.seq ?_
      refine Sv.region ?_
      refine un (a1 rfl ?_)
      refine un (a1 rfl ?_)
      refine gjoin 6 (d := 46) (v := (B (twice || (decide (((mget ids x_.ID).getD (0 : Int)) = 1))))) (fun X hX => ?_) ?_
      · refine split2 (fun hc6 => ?_) (fun hc6 => ?_)
        · refine gs rfl rfl ?_
          refine gs rfl rfl ?_
          refine gs rfl rfl ?_
          refine gs rfl rfl ?_
          refine gs rfl rfl ?_
          refine un (a1 (v := (B true)) rfl ?_)
          refine dnil ?_
          exact hX _ (.putEq (by rw [hc6]; rfl) (.skip _ _ (.skip _ _ (.skip _ _ (.skip _ _ (.skip _ _ (.putEq (by rw [hc6]) (.refl _)) rfl) rfl) rfl) rfl) rfl))
        · refine gt rfl (a1 rfl ?_)
          refine gt rfl (a1 (v := (.c (.ref 3 8 0 0))) rfl ?_)
          refine gt rfl (a1 (v := (I x_.ID)) rfl ?_)
          refine gt rfl (a1 (v := (I ((mget ids x_.ID).getD (0 : Int)))) (s_mlook (ek := (fun x => cI x)) (ev := (fun (x : Int) => (I x))) (l := ids) (key := x_.ID) (z := 0) (fun _ _ => rfl) rfl rfl rfl rfl rfl) ?_)
          refine gt rfl (a1 (v := (B (decide (((mget ids x_.ID).getD (0 : Int)) = 1)))) rfl ?_)
          refine un (a1 (v := (B (decide (((mget ids x_.ID).getD (0 : Int)) = 1)))) rfl ?_)
          refine dnil ?_
          exact hX _ (.putEq (by rw [hc6]; rfl) (.skip _ _ (.skip _ _ (.skip _ _ (.skip _ _ (.skip _ _ (.putEq (by rw [hc6]) (.refl _)) rfl) rfl) rfl) rfl) rfl))
      refine un (a1 rfl ?_)
      refine dnil ?_
      refine Sv.region ?_
      refine un (a1 rfl ?_)
      refine un (a1 (v := (.c (.ref 3 8 0 0))) rfl ?_)
      refine un (a1 (v := (I x_.ID)) rfl ?_)
      obtain ⟨mp, hmp⟩ : ∃ mp : (List (Int × Int)), mp = (mset ids x_.ID 1) := ⟨_, rfl⟩
      replace h := letAt hmp h
      refine un (a2n (h' := upd _ 2 (mapB (.i .i64) (fun x => cI x) (fun (x : Int) => (I x)) mp)) (n' := 4) rfl (by rw [hmp]; exact s_mput (ek := (fun x => cI x)) (ev := (fun (x : Int) => (I x))) (l := ids) (key := x_.ID) (val := 1) (fun _ _ => rfl) rfl rfl rfl rfl rfl rfl) (fun h => by cases h) ?_)
      clear hmp
      refine dnil ?_
      refine Sv.region ?_
      refine un (a1 (v := (I (wi (v24 + 1)))) rfl ?_)
      refine un (a1 rfl ?_)
      refine dnil ?_
      exact hself mp (twice || (decide (((mget ids x_.ID).getD (0 : Int)) = 1))) (wi (v24 + 1)) h _ (weak_canon [0, 1, 2] rfl (by decide) (by decide) (fun b h => absurd h (Nat.not_lt_zero _)) (.cons rfl (avAs_free rfl) (.cons rfl (avAs_free rfl) (.cons rfl (avAs_free rfl) (.cons rfl (avAs_free rfl) (.cons rfl (.c (.mp rfl (by decide))) (.cons rfl (.c (.ref rfl (by decide))) (.cons rfl (.c (.ref rfl (by decide))) .nil))))))) (.box (by decide) rfl .map (.box (by decide) rfl (blkAs_cells (.cons (.same rfl) (.cons (.same rfl) (.cons (.same rfl) (.cons (.same rfl) (.cons (.same rfl) (.cons (.same rfl) (.cons (.same rfl) .nil)))))))) (.box (by decide) rfl (blkAs_cells (.cons (.same rfl) (.cons (.same rfl) .nil))) .nil))))
  · replace h := ifF hc3 h
    refine Sv.exit ?_
    exact hK0 twice h _ (weak_canon [0, 1] rfl (by decide) (by decide) (fun b h => absurd h (Nat.not_lt_zero _)) (.cons rfl (avAs_free rfl) (.cons rfl (.c (.ref rfl (by decide))) (.cons rfl (.c (.ref rfl (by decide))) .nil))) (.box (by decide) rfl (blkAs_cells (.cons (.same rfl) (.cons (.same rfl) (.cons (.same rfl) (.cons (.same rfl) (.cons (.same rfl) (.cons (.same rfl) (.cons (.same rfl) .nil)))))))) (.box (by decide) rfl (blkAs_cells (.cons (.same rfl) (.cons (.same rfl) .nil))) .nil)))
/-- clerestory/event.asked -/
noncomputable def event_asked (d_ : TDoc) (l_ : (List TListener)) (e_ : TEvent) : Option ((List Int) × Int) :=
  (dom_Check d_).bind fun r_ =>
  if (!decide (r_ = 0)) then
    some (([] : List Int), r_)
  else
    if decide (60 < (l_.length : Int)) then
      some (([] : List Int), 2)
    else
      lim fun kk => event_asked_l0 l_ d_ e_ (fun (twice1 : Bool) => 
          if twice1 then
            some (([] : List Int), 6)
          else
            if ((decide (e_.f_Type = [])) || (decide (40 < (e_.f_Type.length : Int)))) then
              some (([] : List Int), 3)
            else
              (event_Path d_ e_.Target).bind fun r_1 =>
              some (r_1.1, r_1.2)) kk ([] : List (Int × Int)) false 0
theorem event_asked_ok {mL : Int} {d_ : TDoc} {l_ : (List TListener)} {e_ : TEvent} {r : ((List Int) × Int)} (h : event_asked d_ l_ e_ = some r) : ACalls Tryd.prog (GG mL) 16 [(.agg [.ro false 6 (d_.Nodes.map e_TNode), cB d_.Quirks]), (.c (.ro false 8 (l_.map e_TListener))), (.agg [.str e_.f_Type, cI e_.Target, cI e_.X, cI e_.Y, .str e_.Key, cB e_.Bubbles, cB e_.Cancels])] (fun _ => none) 0 (event_asked_post r) := by
  refine acalls_of_sv hmix c16 (R := event_asked_post r) ?_
  unfold event_asked at h
  refine Sv.seq ?_
  refine Sv.region ?_
  refine un (a2v (v := (.c (.ref 0 2 0 0))) (h' := upd _ 0 (some (.cells 2 [[.ro false 6 (d_.Nodes.map e_TNode), cB d_.Quirks]]))) (n' := 1) rfl rfl (fun h => by cases h) ?_)
  refine un (a2v (v := (.c (.ref 1 7 0 0))) (h' := upd _ 1 (some (.cells 7 [[.str e_.f_Type, cI e_.Target, cI e_.X, cI e_.Y, .str e_.Key, cB e_.Bubbles, cB e_.Cancels]]))) (n' := 2) rfl rfl (fun h => by cases h) ?_)
  refine un (a1 rfl ?_)
  refine un (a1 rfl ?_)
  refine dnil ?_
  refine Sv.seq ?_
  refine Sv.seq ?_
  refine Sv.region ?_
  refine un (a1 (v := (.agg [.ro false 6 (d_.Nodes.map e_TNode), cB d_.Quirks])) rfl ?_)
  obtain ⟨r_, hr1, h⟩ := bnd h
  refine un (ac_pure (dom_Check_ok hr1) rfl rfl rfl ?_)
  refine un (a1 rfl ?_)
  refine dnil ?_
  refine Sv.seq ?_
  refine Sv.region ?_
  refine un (a1 rfl ?_)
  refine un (a1 (v := (B (!decide (r_ = 0)))) rfl ?_)
  refine dnil ?_
  refine Sv.cond (b := (!decide (r_ = 0))) rfl (fun hc1 => ?_) (fun hc1 => ?_)
  · replace h := ifT hc1 h
    refine Sv.seq ?_
    refine Sv.region ?_
    refine un (a1 rfl ?_)
    refine un (a1 rfl ?_)
    refine un (a1 rfl ?_)
    refine dnil ?_
    refine Sv.ret ?_
    replace h := Option.some.inj h
    subst h
    exact ⟨_, .refl _, _, rfl, ⟨upd (fun _ => none) 0 (some (.tup [(lstV true 0 1 ([] : List Int).length), (I r_)])), (upd (fun _ => none) 0 (lstB true 1 (([] : List Int).map eI))), 1⟩, (.tup [(lstV true 0 1 ([] : List Int).length), (I r_)]), weak_canon2 [1000] [0] (by decide) (by decide) (fun b h => absurd h (Nat.not_lt_zero _)) (.cons (by decide) .nil) (.cons rfl (avAs_tup (.cons (.c (.same rfl)) (.cons (avAs_free rfl) .nil))) .nil) (.non (by decide) .nil), rfl, true, (fun _ => rfl), rfl, rfl, rfl⟩
  · replace h := ifF hc1 h
    refine Sv.skip ?_
    refine Sv.seq ?_
    refine Sv.seq ?_
    refine Sv.region ?_
    refine un (a1 rfl ?_)
    refine un (a1 (v := (I (l_.length : Int))) (s_len (e := e_TListener) (xs := l_) rfl) ?_)
    refine un (a1 (v := (B (decide (60 < (l_.length : Int))))) rfl ?_)
    refine dnil ?_
    refine Sv.cond (b := decide (60 < (l_.length : Int))) rfl (fun hc2 => ?_) (fun hc2 => ?_)
    · replace h := ifT hc2 h
      refine Sv.seq ?_
      refine Sv.region ?_
      refine un (a1 rfl ?_)
      refine un (a1 rfl ?_)
      refine dnil ?_
      refine Sv.ret ?_
      replace h := Option.some.inj h
      subst h
      exact ⟨_, .refl _, _, rfl, ⟨upd (fun _ => none) 0 (some (.tup [(lstV true 0 1 ([] : List Int).length), (I 2)])), (upd (fun _ => none) 0 (lstB true 1 (([] : List Int).map eI))), 1⟩, (.tup [(lstV true 0 1 ([] : List Int).length), (I 2)]), weak_canon2 [1000] [0] (by decide) (by decide) (fun b h => absurd h (Nat.not_lt_zero _)) (.cons (by decide) .nil) (.cons rfl (avAs_tup (.cons (.c (.same rfl)) (.cons (avAs_free rfl) .nil))) .nil) (.non (by decide) .nil), rfl, true, (fun _ => rfl), rfl, rfl, rfl⟩
    · replace h := ifF hc2 h
      refine Sv.skip ?_
      refine Sv.seq ?_
      refine Sv.region ?_
      refine un (a2v (v := (.c (.mp 2))) (h' := upd _ 2 (mapB (.i .i64) (fun x => cI x) (fun (x : Int) => (I x)) ([] : List (Int × Int)))) (n' := 3) rfl rfl (fun h => by cases h) ?_)
      refine un (a1 rfl ?_)
      refine dnil ?_
      refine Sv.seq ?_
      refine Sv.region ?_
      refine un (a1 rfl ?_)
      refine dnil ?_
      refine Sv.seq ?_
      refine Sv.seq ?_
      refine Sv.region ?_
      refine un (a1 rfl ?_)
      refine un (a1 (v := (I (l_.length : Int))) (s_len (e := e_TListener) (xs := l_) rfl) ?_)
      refine un (a1 rfl ?_)
      refine dnil ?_
      refine Sv.block ?_
      obtain ⟨kk, h⟩ := lim_some h
      refine Sv.weak (weak_canon [0, 1, 2] rfl (by decide) (by decide) (fun b h => absurd h (Nat.not_lt_zero _)) (.cons rfl (avAs_free rfl) (.cons rfl (avAs_free rfl) (.cons rfl (avAs_free rfl) (.cons rfl (avAs_free rfl) (.cons rfl (.c (.mp rfl (by decide))) (.cons rfl (.c (.ref rfl (by decide))) (.cons rfl (.c (.ref rfl (by decide))) .nil))))))) (.box (by decide) rfl .map (.box (by decide) rfl (blkAs_cells (.cons (.same rfl) (.cons (.same rfl) (.cons (.same rfl) (.cons (.same rfl) (.cons (.same rfl) (.cons (.same rfl) (.cons (.same rfl) .nil)))))))) (.box (by decide) rfl (blkAs_cells (.cons (.same rfl) (.cons (.same rfl) .nil))) .nil)))) (event_asked_l0_ok h ?_ (fun s hs => hs))
      · intro twice1 h _ hw1
        refine Sv.weak hw1 ?_
        refine Sv.seq ?_
        refine Sv.block ?_
        refine Sv.seq ?_
        refine Sv.region ?_
        refine un (a1 rfl ?_)
        refine un (a1 rfl ?_)
        refine dnil ?_
        refine Sv.cond (b := twice1) rfl (fun hc7 => ?_) (fun hc7 => ?_)
        · replace h := ifT hc7 h
          refine Sv.seq ?_
          refine Sv.region ?_
          refine un (a1 rfl ?_)
          refine un (a1 rfl ?_)
          refine dnil ?_
          refine Sv.ret ?_
          replace h := Option.some.inj h
          subst h
          exact ⟨_, .refl _, _, rfl, ⟨upd (fun _ => none) 0 (some (.tup [(lstV true 0 1 ([] : List Int).length), (I 6)])), (upd (fun _ => none) 0 (lstB true 1 (([] : List Int).map eI))), 1⟩, (.tup [(lstV true 0 1 ([] : List Int).length), (I 6)]), weak_canon2 [1000] [0] (by decide) (by decide) (fun b h => absurd h (Nat.not_lt_zero _)) (.cons (by decide) .nil) (.cons rfl (avAs_tup (.cons (.c (.same rfl)) (.cons (avAs_free rfl) .nil))) .nil) (.non (by decide) .nil), rfl, true, (fun _ => rfl), rfl, rfl, rfl⟩
        · replace h := ifF hc7 h
          refine Sv.seq ?_
          refine Sv.region ?_
          refine un (a1 (v := (.c (.ref 1 7 0 0))) rfl ?_)
          refine un (a1 (v := (S e_.f_Type)) rfl ?_)
          refine un (a1 (v := (B (decide (e_.f_Type = [])))) rfl ?_)
          refine un (a1 rfl ?_)
          refine gjoin 5 (d := 62) (v := (B ((decide (e_.f_Type = [])) || (decide (40 < (e_.f_Type.length : Int)))))) (fun X hX => ?_) ?_
          · refine split2 (fun hc8 => ?_) (fun hc8 => ?_)
            · refine gs rfl rfl ?_
              refine gs rfl rfl ?_
              refine gs rfl rfl ?_
              refine gs rfl rfl ?_
              refine un (a1 (v := (B true)) rfl ?_)
              refine dnil ?_
              exact hX _ (.putEq (by rw [hc8]; rfl) (.skip _ _ (.skip _ _ (.skip _ _ (.skip _ _ (.putEq (by rw [hc8]) (.refl _)) rfl) rfl) rfl) rfl))
            · refine gt rfl (a1 (v := (.c (.ref 1 7 0 0))) rfl ?_)
              refine gt rfl (a1 (v := (S e_.f_Type)) rfl ?_)
              refine gt rfl (a1 (v := (I (e_.f_Type.length : Int))) rfl ?_)
              refine gt rfl (a1 (v := (B (decide (40 < (e_.f_Type.length : Int))))) rfl ?_)
              refine un (a1 (v := (B (decide (40 < (e_.f_Type.length : Int))))) rfl ?_)
              refine dnil ?_
              exact hX _ (.putEq (by rw [hc8]; rfl) (.skip _ _ (.skip _ _ (.skip _ _ (.skip _ _ (.putEq (by rw [hc8]) (.refl _)) rfl) rfl) rfl) rfl))
          refine un (a1 rfl ?_)
          refine dnil ?_
          refine Sv.cond (b := ((decide (e_.f_Type = [])) || (decide (40 < (e_.f_Type.length : Int))))) rfl (fun hc9 => ?_) (fun hc9 => ?_)
          · replace h := ifT hc9 h
            refine Sv.seq ?_
            refine Sv.region ?_
            refine un (a1 rfl ?_)
            refine un (a1 rfl ?_)
            refine dnil ?_
            refine Sv.ret ?_
            replace h := Option.some.inj h
            subst h
            exact ⟨_, .refl _, _, rfl, ⟨upd (fun _ => none) 0 (some (.tup [(lstV true 0 1 ([] : List Int).length), (I 3)])), (upd (fun _ => none) 0 (lstB true 1 (([] : List Int).map eI))), 1⟩, (.tup [(lstV true 0 1 ([] : List Int).length), (I 3)]), weak_canon2 [1000] [0] (by decide) (by decide) (fun b h => absurd h (Nat.not_lt_zero _)) (.cons (by decide) .nil) (.cons rfl (avAs_tup (.cons (.c (.same rfl)) (.cons (avAs_free rfl) .nil))) .nil) (.non (by decide) .nil), rfl, true, (fun _ => rfl), rfl, rfl, rfl⟩
          · replace h := ifF hc9 h
            refine Sv.skip ?_
            refine Sv.seq ?_
            refine Sv.region ?_
            refine un (a1 (v := (.agg [.ro false 6 (d_.Nodes.map e_TNode), cB d_.Quirks])) rfl ?_)
            refine un (a1 (v := (.c (.ref 1 7 0 1))) rfl ?_)
            refine un (a1 (v := (I e_.Target)) rfl ?_)
            obtain ⟨r_1, hr2, h⟩ := bnd h
            refine un (ac_gen (bs := []) («as» := [(.agg [.ro false 6 (d_.Nodes.map e_TNode), cB d_.Quirks]), (I e_.Target)]) (h2 := _) (h1 := (fun _ => none)) (event_Path_ok hr2) rfl (.cons (avAs_free rfl) (.cons (avAs_free rfl) .nil)) (hsub_refl _) (.nil _) (fun _ => rfl) (by decide) (by decide) (.cons (avAs_free rfl) (.cons (avAs_free rfl) .nil)) .nil ?_)
            rintro _ _ _ hn ⟨z_, hz_, rfl, rfl, rfl⟩
            refine ⟨.inl rfl, (upd (rem [] _) 2 (lstB z_ 1 (r_1.1.map eI))), fun hbd => (m3_cons (m3_row rfl (fr_map fun _ => rfl)) (m3_rem (in_nil _) (.cons (by decide) .nil) hbd)), (.tup [(lstV z_ 2 1 r_1.1.length), (I r_1.2)]), 3, (by cases z_ <;> rfl), rfl, ?_⟩
            refine un (a1 (v := (lstV z_ 2 1 r_1.1.length)) rfl ?_)
            refine un (a1 (v := (I r_1.2)) rfl ?_)
            refine un (a1 rfl ?_)
            refine un (a1 rfl ?_)
            refine dnil ?_
            refine Sv.ret ?_
            replace h := Option.some.inj h
            subst h
            exact ⟨_, .refl _, _, rfl, ⟨upd (fun _ => none) 0 (some (.tup [(lstV z_ 0 1 r_1.1.length), (I r_1.2)])), (upd (fun _ => none) 0 (lstB z_ 1 (r_1.1.map eI))), 1⟩, (.tup [(lstV z_ 0 1 r_1.1.length), (I r_1.2)]), weak_canon2 [2] [0] (by decide) (by decide) (fun b h => absurd h (Nat.not_lt_zero _)) (.cons (by decide) .nil) (.cons rfl (avAs_tup (.cons (.c (lstC_ren rfl (by decide))) (.cons (avAs_free rfl) .nil))) .nil) (.row (by decide) rfl (fr_map fun _ => rfl) .nil), rfl, z_, hz_, rfl, rfl, rfl⟩
def a31 : AFunc := ⟨3, [(.tmp 5)], (.seq (.region [⟨(some 5), (.mov (.const (.c (.val (.int .i64 0))))), none⟩])
 (.seq (.seq (.region [⟨(some 6), (.mov (.tmp 0)), none⟩, ⟨(some 7), (.load false 1 (.tmp 2)), none⟩, ⟨(some 8), (.bin .eql (.tmp 6) (.tmp 7)), none⟩])
 (.cond (.tmp 8) (.seq (.region [⟨(some 5), (.mov (.const (.c (.val (.int .i64 2))))), none⟩])
 .ret) .skip))
 (.seq (.region [⟨(some 9), (.mov (.tmp 1)), none⟩, ⟨(some 5), (.mov (.tmp 9)), none⟩])
 .ret)))⟩
set_option maxRecDepth 100000 in
theorem c31 : compFunc Tryd.prog 31 = some a31 := by kernel_rfl
def event_steps_fn1_post (r : Int) : AV → Heap → Nat → Prop := fun v h' n' => v = (I r) ∧ (h' = (fun _ => none)) ∧ n' = 0
/-- clerestory/event.steps$1 -/
def event_steps_fn1 (k_ : Int) (other : Int) (v2 : Int) : Int :=
  if decide (k_ = v2) then
    2
  else
    other
theorem event_steps_fn1_ok {mL : Int} (k_ : Int) (other : Int) (v2 : Int) : CPure Tryd.prog (GG mL) 31 [(I k_), (I other), (.c (.rop [cI v2]))] (I (event_steps_fn1 k_ other v2)) := by
  generalize h : event_steps_fn1 k_ other v2 = o
  refine acalls_of_sv hmix c31 (R := event_steps_fn1_post o) ?_
  unfold event_steps_fn1 at h
  refine Sv.seq ?_
  refine Sv.region ?_
  refine un (a1 rfl ?_)
  refine dnil ?_
  refine Sv.seq ?_
  refine Sv.seq ?_
  refine Sv.region ?_
  refine un (a1 rfl ?_)
  refine un (a1 (v := (I v2)) rfl ?_)
  refine un (a1 (v := (B (decide (k_ = v2)))) rfl ?_)
  refine dnil ?_
  refine Sv.cond (b := decide (k_ = v2)) rfl (fun hc1 => ?_) (fun hc1 => ?_)
  · replace h := ifT hc1 h
    refine Sv.seq ?_
    refine Sv.region ?_
    refine un (a1 rfl ?_)
    refine dnil ?_
    refine Sv.ret ?_
    subst h
    exact ⟨_, .refl _, _, rfl, ⟨upd (fun _ => none) 0 (some (I 2)), (fun _ => none), 0⟩, (I 2), weak_canon [] rfl List.nodup_nil (Nat.le_refl _) (fun b h => absurd h (Nat.not_lt_zero _)) (.cons rfl (avAs_free rfl) .nil) .nil, rfl, rfl, rfl, rfl⟩
  · replace h := ifF hc1 h
    refine Sv.skip ?_
    refine Sv.seq ?_
    refine Sv.region ?_
    refine un (a1 rfl ?_)
    refine un (a1 rfl ?_)
    refine dnil ?_
    refine Sv.ret ?_
    subst h
    exact ⟨_, .refl _, _, rfl, ⟨upd (fun _ => none) 0 (some (I other)), (fun _ => none), 0⟩, (I other), weak_canon [] rfl List.nodup_nil (Nat.le_refl _) (fun b h => absurd h (Nat.not_lt_zero _)) (.cons rfl (avAs_free rfl) .nil) .nil, rfl, rfl, rfl, rfl⟩
end Go.Proofs.YtoomjemboekooaaDoorBv
