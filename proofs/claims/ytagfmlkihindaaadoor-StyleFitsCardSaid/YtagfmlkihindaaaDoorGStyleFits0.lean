/- Printed by a program of mine (bgen.py): plain functions, and the walks that show that the code comes to what they answer. -/
import Derived.Test.YtagfmlkihindaaaDoorRows
import Derived.Test.YtagfmlkihindaaaDoorBv22
import Derived.Test.YtagfmlkihindaaaDoorBv35
import Derived.Test.YtagfmlkihindaaaDoorBv38
import Derived.Test.YtagfmlkihindaaaDoorBv30
import Derived.Test.YtagfmlkihindaaaDoorShelf
import Derived.Test.YtagfmlkihindaaaDoorBv36
import Derived.Test.YtagfmlkihindaaaDoorBv37
namespace Go.Proofs.YtagfmlkihindaaaDoorBv
open Go
set_option linter.unusedVariables false
set_option maxRecDepth 100000
theorem hmix : Tryd.prog.follows .mixedOrders = true := by kernel_rfl
structure TAttr where
  Name : (List UInt8)
  Value : (List UInt8)
def e_TAttr (x : TAttr) : List Cel := [.str x.Name, .str x.Value]
structure TNode where
  Kind : Int
  Name : (List UInt8)
  Attrs : (List TAttr)
  Text : (List UInt8)
  Parent : Int
  Kids : (List Int)
def e_TNode (x : TNode) : List Cel := [cI x.Kind, .str x.Name, .ro false 2 (x.Attrs.map e_TAttr), .str x.Text, cI x.Parent, .ro false 1 (x.Kids.map eI)]
structure TDoc where
  Nodes : (List TNode)
  Quirks : Bool
def e_TDoc (x : TDoc) : List Cel := [.ro false 6 (x.Nodes.map e_TNode), cB x.Quirks]
structure TVal where
  Kind : Int
  N : Int
def e_TVal (x : TVal) : List Cel := [cI x.Kind, cI x.N]
structure Trow where
  f_name : (List UInt8)
  f_kinds : (List UInt8)
  f_keys : (List UInt8)
  f_auto : (List UInt8)
  f_above : Bool
def e_Trow (x : Trow) : List Cel := [.str x.f_name, .str x.f_kinds, .str x.f_keys, .str x.f_auto, cB x.f_above]
def g0_c : List Cel := [cI 1, cI 1, cI 1, cI 0, cI 1, cI 0, cI 1, cI 0, cI 1, cI 0, cI 6, cI 0, cI 6, cI 0, cI 6, cI 0, cI 6, cI 0, cI 6, cI 0, cI 6, cI 0, cI 2, cI 0, cI 2, cI 0, cI 2, cI 0, cI 2, cI 0, cI 2, cI 0, cI 2, cI 0, cI 2, cI 0, cI 2, cI 0, cI 2, cI 0, cI 2, cI 0, cI 2, cI 0, cI 2, cI 0, cI 5, cI 255, cI 5, cI 255, cI 5, cI 255, cI 5, cI 255, cI 6, cI 0, cI 6, cI 0, cI 6, cI 0, cI 6, cI 0, cI 6, cI 0, cI 1, cI 0, cI 1, cI 0, cI 4, cI 1000, cI 5, cI 255, cI 5, cI 0, cI 2, cI 1024, cI 6, cI 0, cI 1, cI 0, cI 2, cI 0, cI 1, cI 0, cI 1, cI 0, cI 1, cI 0, cI 6, cI 0, cI 1, cI 0, cI 1, cI 0, cI 1, cI 0, cI 1, cI 6, cI 6, cI 0, cI 4, cI 0, cI 4, cI 1000, cI 6, cI 0, cI 4, cI 0, cI 2, cI 0, cI 1, cI 0, cI 2, cI 0, cI 1, cI 1, cI 1, cI 0]
def g6_c : List Cel := [.val (.int .u8 240), .val (.int .u8 240), .val (.int .u8 240), .val (.int .u8 240), .val (.int .u8 240), .val (.int .u8 240), .val (.int .u8 240), .val (.int .u8 240), .val (.int .u8 240), .val (.int .u8 240), .val (.int .u8 240), .val (.int .u8 240), .val (.int .u8 240), .val (.int .u8 240), .val (.int .u8 240), .val (.int .u8 240), .val (.int .u8 240), .val (.int .u8 240), .val (.int .u8 240), .val (.int .u8 240), .val (.int .u8 240), .val (.int .u8 240), .val (.int .u8 240), .val (.int .u8 240), .val (.int .u8 240), .val (.int .u8 240), .val (.int .u8 240), .val (.int .u8 240), .val (.int .u8 240), .val (.int .u8 240), .val (.int .u8 240), .val (.int .u8 240), .val (.int .u8 240), .val (.int .u8 240), .val (.int .u8 240), .val (.int .u8 240), .val (.int .u8 240), .val (.int .u8 240), .val (.int .u8 240), .val (.int .u8 240), .val (.int .u8 240), .val (.int .u8 240), .val (.int .u8 240), .val (.int .u8 240), .val (.int .u8 240), .val (.int .u8 240), .val (.int .u8 240), .val (.int .u8 240), .val (.int .u8 240), .val (.int .u8 240), .val (.int .u8 240), .val (.int .u8 240), .val (.int .u8 240), .val (.int .u8 240), .val (.int .u8 240), .val (.int .u8 240), .val (.int .u8 240), .val (.int .u8 240), .val (.int .u8 240), .val (.int .u8 240), .val (.int .u8 240), .val (.int .u8 240), .val (.int .u8 240), .val (.int .u8 240), .val (.int .u8 240), .val (.int .u8 240), .val (.int .u8 240), .val (.int .u8 240), .val (.int .u8 240), .val (.int .u8 240), .val (.int .u8 240), .val (.int .u8 240), .val (.int .u8 240), .val (.int .u8 240), .val (.int .u8 240), .val (.int .u8 240), .val (.int .u8 240), .val (.int .u8 240), .val (.int .u8 240), .val (.int .u8 240), .val (.int .u8 240), .val (.int .u8 240), .val (.int .u8 240), .val (.int .u8 240), .val (.int .u8 240), .val (.int .u8 240), .val (.int .u8 240), .val (.int .u8 240), .val (.int .u8 240), .val (.int .u8 240), .val (.int .u8 240), .val (.int .u8 240), .val (.int .u8 240), .val (.int .u8 240), .val (.int .u8 240), .val (.int .u8 240), .val (.int .u8 240), .val (.int .u8 240), .val (.int .u8 240), .val (.int .u8 240), .val (.int .u8 240), .val (.int .u8 240), .val (.int .u8 240), .val (.int .u8 240), .val (.int .u8 240), .val (.int .u8 240), .val (.int .u8 240), .val (.int .u8 240), .val (.int .u8 240), .val (.int .u8 240), .val (.int .u8 240), .val (.int .u8 240), .val (.int .u8 240), .val (.int .u8 240), .val (.int .u8 240), .val (.int .u8 240), .val (.int .u8 240), .val (.int .u8 240), .val (.int .u8 240), .val (.int .u8 240), .val (.int .u8 240), .val (.int .u8 240), .val (.int .u8 240), .val (.int .u8 240), .val (.int .u8 240), .val (.int .u8 240), .val (.int .u8 240), .val (.int .u8 240), .val (.int .u8 241), .val (.int .u8 241), .val (.int .u8 241), .val (.int .u8 241), .val (.int .u8 241), .val (.int .u8 241), .val (.int .u8 241), .val (.int .u8 241), .val (.int .u8 241), .val (.int .u8 241), .val (.int .u8 241), .val (.int .u8 241), .val (.int .u8 241), .val (.int .u8 241), .val (.int .u8 241), .val (.int .u8 241), .val (.int .u8 241), .val (.int .u8 241), .val (.int .u8 241), .val (.int .u8 241), .val (.int .u8 241), .val (.int .u8 241), .val (.int .u8 241), .val (.int .u8 241), .val (.int .u8 241), .val (.int .u8 241), .val (.int .u8 241), .val (.int .u8 241), .val (.int .u8 241), .val (.int .u8 241), .val (.int .u8 241), .val (.int .u8 241), .val (.int .u8 241), .val (.int .u8 241), .val (.int .u8 241), .val (.int .u8 241), .val (.int .u8 241), .val (.int .u8 241), .val (.int .u8 241), .val (.int .u8 241), .val (.int .u8 241), .val (.int .u8 241), .val (.int .u8 241), .val (.int .u8 241), .val (.int .u8 241), .val (.int .u8 241), .val (.int .u8 241), .val (.int .u8 241), .val (.int .u8 241), .val (.int .u8 241), .val (.int .u8 241), .val (.int .u8 241), .val (.int .u8 241), .val (.int .u8 241), .val (.int .u8 241), .val (.int .u8 241), .val (.int .u8 241), .val (.int .u8 241), .val (.int .u8 241), .val (.int .u8 241), .val (.int .u8 241), .val (.int .u8 241), .val (.int .u8 241), .val (.int .u8 241), .val (.int .u8 241), .val (.int .u8 241), .val (.int .u8 2), .val (.int .u8 2), .val (.int .u8 2), .val (.int .u8 2), .val (.int .u8 2), .val (.int .u8 2), .val (.int .u8 2), .val (.int .u8 2), .val (.int .u8 2), .val (.int .u8 2), .val (.int .u8 2), .val (.int .u8 2), .val (.int .u8 2), .val (.int .u8 2), .val (.int .u8 2), .val (.int .u8 2), .val (.int .u8 2), .val (.int .u8 2), .val (.int .u8 2), .val (.int .u8 2), .val (.int .u8 2), .val (.int .u8 2), .val (.int .u8 2), .val (.int .u8 2), .val (.int .u8 2), .val (.int .u8 2), .val (.int .u8 2), .val (.int .u8 2), .val (.int .u8 2), .val (.int .u8 2), .val (.int .u8 19), .val (.int .u8 3), .val (.int .u8 3), .val (.int .u8 3), .val (.int .u8 3), .val (.int .u8 3), .val (.int .u8 3), .val (.int .u8 3), .val (.int .u8 3), .val (.int .u8 3), .val (.int .u8 3), .val (.int .u8 3), .val (.int .u8 3), .val (.int .u8 35), .val (.int .u8 3), .val (.int .u8 3), .val (.int .u8 52), .val (.int .u8 4), .val (.int .u8 4), .val (.int .u8 4), .val (.int .u8 68), .val (.int .u8 241), .val (.int .u8 241), .val (.int .u8 241), .val (.int .u8 241), .val (.int .u8 241), .val (.int .u8 241), .val (.int .u8 241), .val (.int .u8 241), .val (.int .u8 241), .val (.int .u8 241), .val (.int .u8 241)]
def g7_c : List Cel := [.val (.int .u8 128), .val (.int .u8 191), .val (.int .u8 160), .val (.int .u8 191), .val (.int .u8 128), .val (.int .u8 159), .val (.int .u8 144), .val (.int .u8 191), .val (.int .u8 128), .val (.int .u8 143), .val (.int .u8 0), .val (.int .u8 0), .val (.int .u8 0), .val (.int .u8 0), .val (.int .u8 0), .val (.int .u8 0), .val (.int .u8 0), .val (.int .u8 0), .val (.int .u8 0), .val (.int .u8 0), .val (.int .u8 0), .val (.int .u8 0), .val (.int .u8 0), .val (.int .u8 0), .val (.int .u8 0), .val (.int .u8 0), .val (.int .u8 0), .val (.int .u8 0), .val (.int .u8 0), .val (.int .u8 0), .val (.int .u8 0), .val (.int .u8 0)]
/-- what the listed package variables hold -/
def GG (mL : Int) : Glob := fun g => if g = 0 then g0_c else if g = 2 then [.val (.int .i64 mL)] else if g = 6 then g6_c else if g = 7 then g7_c else []
def a34 : AFunc := ⟨1, [(.cell true 2 2)], (.seq (.region [⟨(some 2), (.box (.const (.agg [(.val (.int .i64 0)), (.val (.int .i64 0))]))), none⟩])
 (.seq (.seq (.region [⟨(some 3), (.mov (.tmp 0)), none⟩, ⟨(some 4), (.bin .lss (.tmp 3) (.const (.c (.val (.int .i64 0))))), none⟩, ⟨(some 5), (.mov (.tmp 4)), none⟩, ⟨(some 6), (.mov (.tmp 0)), (some (5, false))⟩, ⟨(some 7), (.bin .geq (.tmp 6) (.const (.c (.val (.int .i64 59))))), (some (5, false))⟩, ⟨(some 8), (.pick (.tmp 5) (.const (.c (.val (.bool true)))) (.tmp 7)), none⟩])
 (.cond (.tmp 8) (.seq (.region [⟨(some 9), (.build [(.val (.int .i64 0)), (.val (.int .i64 0))] []), none⟩, ⟨none, (.store 2 (.tmp 2) (.tmp 9)), none⟩])
 .ret) .skip))
 (.seq (.region [⟨(some 10), (.mov (.tmp 0)), none⟩, ⟨(some 11), (.iaddrA 59 2 (.glob 0) (.tmp 10)), none⟩, ⟨(some 12), (.load true 2 (.tmp 11)), none⟩, ⟨none, (.store 2 (.tmp 2) (.tmp 12)), none⟩])
 .ret)))⟩
set_option maxRecDepth 100000 in
theorem c34 : compFunc Tryd.prog 34 = some a34 := by kernel_rfl
def style_Initial_post (r : TVal) : AV → Heap → Nat → Prop := fun v h' n' => v = (.agg [cI r.Kind, cI r.N]) ∧ (h' = (fun _ => none)) ∧ n' = 0
def style_Initial_t0 : List TVal := [(⟨1, 1⟩ : TVal), (⟨1, 0⟩ : TVal), (⟨1, 0⟩ : TVal), (⟨1, 0⟩ : TVal), (⟨1, 0⟩ : TVal), (⟨6, 0⟩ : TVal), (⟨6, 0⟩ : TVal), (⟨6, 0⟩ : TVal), (⟨6, 0⟩ : TVal), (⟨6, 0⟩ : TVal), (⟨6, 0⟩ : TVal), (⟨2, 0⟩ : TVal), (⟨2, 0⟩ : TVal), (⟨2, 0⟩ : TVal), (⟨2, 0⟩ : TVal), (⟨2, 0⟩ : TVal), (⟨2, 0⟩ : TVal), (⟨2, 0⟩ : TVal), (⟨2, 0⟩ : TVal), (⟨2, 0⟩ : TVal), (⟨2, 0⟩ : TVal), (⟨2, 0⟩ : TVal), (⟨2, 0⟩ : TVal), (⟨5, 255⟩ : TVal), (⟨5, 255⟩ : TVal), (⟨5, 255⟩ : TVal), (⟨5, 255⟩ : TVal), (⟨6, 0⟩ : TVal), (⟨6, 0⟩ : TVal), (⟨6, 0⟩ : TVal), (⟨6, 0⟩ : TVal), (⟨6, 0⟩ : TVal), (⟨1, 0⟩ : TVal), (⟨1, 0⟩ : TVal), (⟨4, 1000⟩ : TVal), (⟨5, 255⟩ : TVal), (⟨5, 0⟩ : TVal), (⟨2, 1024⟩ : TVal), (⟨6, 0⟩ : TVal), (⟨1, 0⟩ : TVal), (⟨2, 0⟩ : TVal), (⟨1, 0⟩ : TVal), (⟨1, 0⟩ : TVal), (⟨1, 0⟩ : TVal), (⟨6, 0⟩ : TVal), (⟨1, 0⟩ : TVal), (⟨1, 0⟩ : TVal), (⟨1, 0⟩ : TVal), (⟨1, 6⟩ : TVal), (⟨6, 0⟩ : TVal), (⟨4, 0⟩ : TVal), (⟨4, 1000⟩ : TVal), (⟨6, 0⟩ : TVal), (⟨4, 0⟩ : TVal), (⟨2, 0⟩ : TVal), (⟨1, 0⟩ : TVal), (⟨2, 0⟩ : TVal), (⟨1, 1⟩ : TVal), (⟨1, 0⟩ : TVal)]
/-- clerestory/style.Initial -/
noncomputable def style_Initial (p_ : Int) : Option TVal :=
  if ((decide (p_ < 0)) || (decide (59 ≤ p_))) then
    some (⟨0, 0⟩ : TVal)
  else
    (at? style_Initial_t0 p_).bind fun x_ =>
    some x_
theorem style_Initial_ok {mL : Int} {p_ : Int} {r : TVal} (h : style_Initial p_ = some r) : CPure Tryd.prog (GG mL) 34 [(I p_)] (.agg [cI r.Kind, cI r.N]) := by
  refine acalls_of_sv hmix c34 (R := style_Initial_post r) ?_
  unfold style_Initial at h
  refine Sv.seq ?_
  refine Sv.region ?_
  refine un (a2v (v := (.c (.ref 0 2 0 0))) (h' := upd _ 0 (some (.cells 2 [[cI 0, cI 0]]))) (n' := 1) rfl rfl (fun h => by cases h) ?_)
  refine dnil ?_
  refine Sv.seq ?_
  refine Sv.seq ?_
  refine Sv.region ?_
  refine un (a1 rfl ?_)
  refine un (a1 (v := (B (decide (p_ < 0)))) rfl ?_)
  refine un (a1 rfl ?_)
  refine gjoin 3 (d := 8) (v := (B ((decide (p_ < 0)) || (decide (59 ≤ p_))))) (fun X hX => ?_) ?_
  · refine split2 (fun hc1 => ?_) (fun hc1 => ?_)
    · refine gs rfl rfl ?_
      refine gs rfl rfl ?_
      refine un (a1 (v := (B true)) rfl ?_)
      refine dnil ?_
      exact hX _ (.putEq (by rw [hc1]; rfl) (.skip _ _ (.skip _ _ (.putEq (by rw [hc1]) (.refl _)) rfl) rfl))
    · refine gt rfl (a1 rfl ?_)
      refine gt rfl (a1 (v := (B (decide (59 ≤ p_)))) rfl ?_)
      refine un (a1 (v := (B (decide (59 ≤ p_)))) rfl ?_)
      refine dnil ?_
      exact hX _ (.putEq (by rw [hc1]; rfl) (.skip _ _ (.skip _ _ (.putEq (by rw [hc1]) (.refl _)) rfl) rfl))
  refine dnil ?_
  refine Sv.cond (b := ((decide (p_ < 0)) || (decide (59 ≤ p_)))) rfl (fun hc2 => ?_) (fun hc2 => ?_)
  · replace h := ifT hc2 h
    refine Sv.seq ?_
    refine Sv.region ?_
    refine un (a1 (v := (.agg [cI 0, cI 0])) rfl ?_)
    refine un (a2n (h' := upd _ 0 (some (.cells 2 [[cI 0, cI 0]]))) (n' := 1) rfl rfl (fun h => by cases h) ?_)
    refine dnil ?_
    refine Sv.ret ?_
    replace h := Option.some.inj h
    subst h
    exact ⟨_, .refl _, _, rfl, ⟨upd (fun _ => none) 0 (some (.agg [cI 0, cI 0])), (fun _ => none), 0⟩, (.agg [cI 0, cI 0]), weak_canon [] rfl List.nodup_nil (Nat.le_refl _) (fun b h => absurd h (Nat.not_lt_zero _)) (.cons rfl (avAs_free rfl) .nil) .nil, rfl, rfl, rfl, rfl⟩
  · replace h := ifF hc2 h
    refine Sv.skip ?_
    refine Sv.seq ?_
    refine Sv.region ?_
    refine un (a1 rfl ?_)
    obtain ⟨x_, hx1, h⟩ := bnd h
    refine un (a1 (v := (.c (.rop (List.drop (p_.toNat * 2) g0_c)))) (s_iaddrAr (L := style_Initial_t0) rfl rfl rfl hx1) ?_)
    refine un (a1 (v := (.agg [cI x_.Kind, cI x_.N])) (s_loadAr (o2 := 0) (v := fun q => (.agg [cI q.Kind, cI q.N])) rfl (.cons rfl (.cons rfl (.cons rfl (.cons rfl (.cons rfl (.cons rfl (.cons rfl (.cons rfl (.cons rfl (.cons rfl (.cons rfl (.cons rfl (.cons rfl (.cons rfl (.cons rfl (.cons rfl (.cons rfl (.cons rfl (.cons rfl (.cons rfl (.cons rfl (.cons rfl (.cons rfl (.cons rfl (.cons rfl (.cons rfl (.cons rfl (.cons rfl (.cons rfl (.cons rfl (.cons rfl (.cons rfl (.cons rfl (.cons rfl (.cons rfl (.cons rfl (.cons rfl (.cons rfl (.cons rfl (.cons rfl (.cons rfl (.cons rfl (.cons rfl (.cons rfl (.cons rfl (.cons rfl (.cons rfl (.cons rfl (.cons rfl (.cons rfl (.cons rfl (.cons rfl (.cons rfl (.cons rfl (.cons rfl (.cons rfl (.cons rfl (.cons rfl (.cons rfl .nil))))))))))))))))))))))))))))))))))))))))))))))))))))))))))) hx1) ?_)
    refine un (a2n (h' := upd _ 0 (some (.cells 2 [[cI x_.Kind, cI x_.N]]))) (n' := 1) rfl rfl (fun h => by cases h) ?_)
    refine dnil ?_
    refine Sv.ret ?_
    replace h := Option.some.inj h
    subst h
    exact ⟨_, .refl _, _, rfl, ⟨upd (fun _ => none) 0 (some (.agg [cI x_.Kind, cI x_.N])), (fun _ => none), 0⟩, (.agg [cI x_.Kind, cI x_.N]), weak_canon [] rfl List.nodup_nil (Nat.le_refl _) (fun b h => absurd h (Nat.not_lt_zero _)) (.cons rfl (avAs_free rfl) .nil) .nil, rfl, rfl, rfl, rfl⟩
def a146 : AFunc := ⟨1, [(.tmp 2)], (.seq (.region [⟨(some 2), (.mov (.const (.c (.val (.bool false))))), none⟩])
 (.seq (.region [⟨(some 3), (.mov (.tmp 0)), none⟩, ⟨(some 4), (.bin .eql (.tmp 3) (.const (.c (.val (.int .i64 1))))), none⟩, ⟨(some 5), (.mov (.tmp 4)), none⟩, ⟨(some 6), (.mov (.tmp 0)), (some (5, false))⟩, ⟨(some 7), (.bin .eql (.tmp 6) (.const (.c (.val (.int .i64 2))))), (some (5, false))⟩, ⟨(some 8), (.pick (.tmp 5) (.const (.c (.val (.bool true)))) (.tmp 7)), none⟩, ⟨(some 2), (.mov (.tmp 8)), none⟩])
 .ret))⟩
set_option maxRecDepth 100000 in
theorem c146 : compFunc Tryd.prog 146 = some a146 := by kernel_rfl
def dom_parent_post (r : Bool) : AV → Heap → Nat → Prop := fun v h' n' => v = (B r) ∧ (h' = (fun _ => none)) ∧ n' = 0
/-- clerestory/dom.parent -/
def dom_parent (kind : Int) : Bool :=
  ((decide (kind = 1)) || (decide (kind = 2)))
theorem dom_parent_ok {mL : Int} (kind : Int) : CPure Tryd.prog (GG mL) 146 [(I kind)] (B (dom_parent kind)) := by
  generalize h : dom_parent kind = o
  refine acalls_of_sv hmix c146 (R := dom_parent_post o) ?_
  unfold dom_parent at h
  refine Sv.seq ?_
  refine Sv.region ?_
  refine un (a1 rfl ?_)
  refine dnil ?_
  refine Sv.seq ?_
  refine Sv.region ?_
  refine un (a1 rfl ?_)
  refine un (a1 (v := (B (decide (kind = 1)))) rfl ?_)
  refine un (a1 rfl ?_)
  refine gjoin 3 (d := 8) (v := (B ((decide (kind = 1)) || (decide (kind = 2))))) (fun X hX => ?_) ?_
  · refine split2 (fun hc1 => ?_) (fun hc1 => ?_)
    · refine gs rfl rfl ?_
      refine gs rfl rfl ?_
      refine un (a1 (v := (B true)) rfl ?_)
      refine dnil ?_
      exact hX _ (.putEq (by rw [hc1]; rfl) (.skip _ _ (.skip _ _ (.putEq (by rw [hc1]) (.refl _)) rfl) rfl))
    · refine gt rfl (a1 rfl ?_)
      refine gt rfl (a1 (v := (B (decide (kind = 2)))) rfl ?_)
      refine un (a1 (v := (B (decide (kind = 2)))) rfl ?_)
      refine dnil ?_
      exact hX _ (.putEq (by rw [hc1]; rfl) (.skip _ _ (.skip _ _ (.putEq (by rw [hc1]) (.refl _)) rfl) rfl))
  refine un (a1 rfl ?_)
  refine dnil ?_
  refine Sv.ret ?_
  subst h
  exact ⟨_, .refl _, _, rfl, ⟨upd (fun _ => none) 0 (some (B ((decide (kind = 1)) || (decide (kind = 2))))), (fun _ => none), 0⟩, (B ((decide (kind = 1)) || (decide (kind = 2)))), weak_canon [] rfl List.nodup_nil (Nat.le_refl _) (fun b h => absurd h (Nat.not_lt_zero _)) (.cons rfl (avAs_free rfl) .nil) .nil, rfl, rfl, rfl, rfl⟩
def a119 : AFunc := ⟨1, [(.tmp 2)], (.seq (.region [⟨(some 1), (.box (.tmp 0)), none⟩, ⟨(some 2), (.mov (.const (.c (.val (.bool false))))), none⟩])
 (.seq (.drawn (.fin [(⟨(some 5), (.faddr 0 (.tmp 1)), none⟩, (0, 0)), (⟨(some 6), (.load false 1 (.tmp 5)), none⟩, (0, 1)), (⟨(some 7), (.bin .eql (.tmp 6) (.const (.c (.val (.int .i64 2))))), none⟩, (0, 2)), (⟨(some 8), (.faddr 0 (.tmp 1)), none⟩, (0, 3)), (⟨(some 9), (.load false 1 (.tmp 8)), none⟩, (0, 4)), (⟨(some 10), (.bin .eql (.tmp 9) (.const (.c (.val (.int .i64 3))))), none⟩, (0, 5)), (⟨(some 11), (.mov (.tmp 10)), none⟩, (0, 6)), (⟨(some 12), (.faddr 0 (.tmp 1)), (some (11, false))⟩, (0, 7)), (⟨(some 13), (.load false 1 (.tmp 12)), (some (11, false))⟩, (0, 8)), (⟨(some 14), (.bin .eql (.tmp 13) (.const (.c (.val (.int .i64 4))))), (some (11, false))⟩, (0, 9)), (⟨(some 15), (.pick (.tmp 11) (.const (.c (.val (.bool true)))) (.tmp 14)), none⟩, (0, 10)), (⟨(some 3), (.mov (.tmp 7)), none⟩, (0, 11)), (⟨(some 4), (.mov (.tmp 15)), none⟩, (0, 12))]))
 (.seq (.region [⟨(some 16), (.mov (.tmp 3)), none⟩, ⟨(some 17), (.mov (.tmp 16)), none⟩, ⟨(some 18), (.faddr 0 (.tmp 1)), (some (17, false))⟩, ⟨(some 19), (.load false 1 (.tmp 18)), (some (17, false))⟩, ⟨(some 20), (.bin .eql (.tmp 19) (.const (.c (.val (.int .i64 5))))), (some (17, false))⟩, ⟨(some 21), (.pick (.tmp 17) (.const (.c (.val (.bool true)))) (.tmp 20)), none⟩, ⟨(some 22), (.mov (.tmp 21)), none⟩, ⟨(some 23), (.faddr 1 (.tmp 1)), (some (22, false))⟩, ⟨(some 24), (.load false 1 (.tmp 23)), (some (22, false))⟩, ⟨(some 25), (.bin .eql (.tmp 24) (.const (.c (.str [])))), (some (22, false))⟩, ⟨(some 26), (.pick (.tmp 22) (.const (.c (.val (.bool true)))) (.tmp 25)), none⟩, ⟨(some 27), (.mov (.tmp 26)), none⟩, ⟨(some 28), (.mov (.tmp 3)), (some (27, true))⟩, ⟨(some 29), (.mov (.tmp 28)), (some (27, true))⟩, ⟨(some 30), (.faddr 2 (.tmp 1)), (some (29, false))⟩, ⟨(some 31), (.load false 1 (.tmp 30)), (some (29, false))⟩, ⟨(some 32), (.len (.tmp 31)), (some (29, false))⟩, ⟨(some 33), (.bin .eql (.tmp 32) (.const (.c (.val (.int .i64 0))))), (some (29, false))⟩, ⟨(some 34), (.pick (.tmp 29) (.const (.c (.val (.bool true)))) (.tmp 33)), (some (27, true))⟩, ⟨(some 35), (.pick (.tmp 27) (.tmp 34) (.const (.c (.val (.bool false))))), none⟩, ⟨(some 36), (.mov (.tmp 35)), none⟩, ⟨(some 37), (.mov (.tmp 4)), (some (36, true))⟩, ⟨(some 38), (.mov (.tmp 37)), (some (36, true))⟩, ⟨(some 39), (.faddr 3 (.tmp 1)), (some (38, false))⟩, ⟨(some 40), (.load false 1 (.tmp 39)), (some (38, false))⟩, ⟨(some 41), (.bin .eql (.tmp 40) (.const (.c (.str [])))), (some (38, false))⟩, ⟨(some 42), (.pick (.tmp 38) (.const (.c (.val (.bool true)))) (.tmp 41)), (some (36, true))⟩, ⟨(some 43), (.pick (.tmp 36) (.tmp 42) (.const (.c (.val (.bool false))))), none⟩, ⟨(some 44), (.mov (.tmp 43)), none⟩, ⟨(some 45), (.faddr 0 (.tmp 1)), (some (44, true))⟩, ⟨(some 46), (.load false 1 (.tmp 45)), (some (44, true))⟩, ⟨(some 47), (.call 146 [(.tmp 46)]), (some (44, true))⟩, ⟨(some 48), (.mov (.tmp 47)), (some (44, true))⟩, ⟨(some 49), (.faddr 5 (.tmp 1)), (some (48, false))⟩, ⟨(some 50), (.load false 1 (.tmp 49)), (some (48, false))⟩, ⟨(some 51), (.len (.tmp 50)), (some (48, false))⟩, ⟨(some 52), (.bin .eql (.tmp 51) (.const (.c (.val (.int .i64 0))))), (some (48, false))⟩, ⟨(some 53), (.pick (.tmp 48) (.const (.c (.val (.bool true)))) (.tmp 52)), (some (44, true))⟩, ⟨(some 54), (.pick (.tmp 44) (.tmp 53) (.const (.c (.val (.bool false))))), none⟩, ⟨(some 2), (.mov (.tmp 54)), none⟩])
 .ret)))⟩
set_option maxRecDepth 100000 in
theorem c119 : compFunc Tryd.prog 119 = some a119 := by kernel_rfl
def dom_bare_post (r : Bool) : AV → Heap → Nat → Prop := fun v h' n' => v = (B r) ∧ (h' = (fun _ => none)) ∧ n' = 0
/-- clerestory/dom.bare -/
def dom_bare (x_ : TNode) : Bool :=
  ((((((decide (x_.Kind = 2)) || (decide (x_.Kind = 5))) || (decide (x_.Name = []))) && ((decide (x_.Kind = 2)) || (decide ((x_.Attrs.length : Int) = 0)))) && (((decide (x_.Kind = 3)) || (decide (x_.Kind = 4))) || (decide (x_.Text = [])))) && ((dom_parent x_.Kind) || (decide ((x_.Kids.length : Int) = 0))))
theorem dom_bare_ok {mL : Int} (x_ : TNode) : CPure Tryd.prog (GG mL) 119 [(.agg [cI x_.Kind, .str x_.Name, .ro false 2 (x_.Attrs.map e_TAttr), .str x_.Text, cI x_.Parent, .ro false 1 (x_.Kids.map eI)])] (B (dom_bare x_)) := by
  generalize h : dom_bare x_ = o
  refine acalls_of_sv hmix c119 (R := dom_bare_post o) ?_
  unfold dom_bare at h
  refine Sv.seq ?_
  refine Sv.region ?_
  refine un (a2v (v := (.c (.ref 0 6 0 0))) (h' := upd _ 0 (some (.cells 6 [[cI x_.Kind, .str x_.Name, .ro false 2 (x_.Attrs.map e_TAttr), .str x_.Text, cI x_.Parent, .ro false 1 (x_.Kids.map eI)]]))) (n' := 1) rfl rfl (fun h => by cases h) ?_)
  refine un (a1 rfl ?_)
  refine dnil ?_
  refine Sv.seq ?_
  refine Sv.drawn ?_
  refine un (a1 (v := (.c (.ref 0 6 0 0))) rfl ?_)
  refine un (a1 (v := (I x_.Kind)) rfl ?_)
  refine un (a1 (v := (B (decide (x_.Kind = 2)))) rfl ?_)
  refine un (a1 (v := (.c (.ref 0 6 0 0))) rfl ?_)
  refine un (a1 (v := (I x_.Kind)) rfl ?_)
  refine un (a1 (v := (B (decide (x_.Kind = 3)))) rfl ?_)
  refine un (a1 rfl ?_)
  refine gjoin 4 (d := 15) (v := (B ((decide (x_.Kind = 3)) || (decide (x_.Kind = 4))))) (fun X hX => ?_) ?_
  · refine split2 (fun hc1 => ?_) (fun hc1 => ?_)
    · refine gs rfl rfl ?_
      refine gs rfl rfl ?_
      refine gs rfl rfl ?_
      refine un (a1 (v := (B true)) rfl ?_)
      refine dnil ?_
      exact hX _ (.putEq (by rw [hc1]; rfl) (.skip _ _ (.skip _ _ (.skip _ _ (.putEq (by rw [hc1]) (.refl _)) rfl) rfl) rfl))
    · refine gt rfl (a1 (v := (.c (.ref 0 6 0 0))) rfl ?_)
      refine gt rfl (a1 (v := (I x_.Kind)) rfl ?_)
      refine gt rfl (a1 (v := (B (decide (x_.Kind = 4)))) rfl ?_)
      refine un (a1 (v := (B (decide (x_.Kind = 4)))) rfl ?_)
      refine dnil ?_
      exact hX _ (.putEq (by rw [hc1]; rfl) (.skip _ _ (.skip _ _ (.skip _ _ (.putEq (by rw [hc1]) (.refl _)) rfl) rfl) rfl))
  refine un (a1 rfl ?_)
  refine un (a1 rfl ?_)
  refine dnil ?_
  refine Sv.seq ?_
  refine Sv.region ?_
  refine un (a1 rfl ?_)
  refine un (a1 rfl ?_)
  refine gjoin 4 (d := 21) (v := (B ((decide (x_.Kind = 2)) || (decide (x_.Kind = 5))))) (fun X hX => ?_) ?_
  · refine split2 (fun hc2 => ?_) (fun hc2 => ?_)
    · refine gs rfl rfl ?_
      refine gs rfl rfl ?_
      refine gs rfl rfl ?_
      refine un (a1 (v := (B true)) rfl ?_)
      refine dnil ?_
      exact hX _ (.putEq (by rw [hc2]; rfl) (.skip _ _ (.skip _ _ (.skip _ _ (.putEq (by rw [hc2]) (.refl _)) rfl) rfl) rfl))
    · refine gt rfl (a1 (v := (.c (.ref 0 6 0 0))) rfl ?_)
      refine gt rfl (a1 (v := (I x_.Kind)) rfl ?_)
      refine gt rfl (a1 (v := (B (decide (x_.Kind = 5)))) rfl ?_)
      refine un (a1 (v := (B (decide (x_.Kind = 5)))) rfl ?_)
      refine dnil ?_
      exact hX _ (.putEq (by rw [hc2]; rfl) (.skip _ _ (.skip _ _ (.skip _ _ (.putEq (by rw [hc2]) (.refl _)) rfl) rfl) rfl))
  refine un (a1 rfl ?_)
  refine gjoin 4 (d := 26) (v := (B (((decide (x_.Kind = 2)) || (decide (x_.Kind = 5))) || (decide (x_.Name = []))))) (fun X hX => ?_) ?_
  · refine split2 (fun hc3 => ?_) (fun hc3 => ?_)
    · refine gs rfl rfl ?_
      refine gs rfl rfl ?_
      refine gs rfl rfl ?_
      refine un (a1 (v := (B true)) rfl ?_)
      refine dnil ?_
      exact hX _ (.putEq (by rw [hc3]; rfl) (.skip _ _ (.skip _ _ (.skip _ _ (.putEq (by rw [hc3]) (.refl _)) rfl) rfl) rfl))
    · refine gt rfl (a1 (v := (.c (.ref 0 6 0 1))) rfl ?_)
      refine gt rfl (a1 (v := (S x_.Name)) rfl ?_)
      refine gt rfl (a1 (v := (B (decide (x_.Name = [])))) rfl ?_)
      refine un (a1 (v := (B (decide (x_.Name = [])))) rfl ?_)
      refine dnil ?_
      exact hX _ (.putEq (by rw [hc3]; rfl) (.skip _ _ (.skip _ _ (.skip _ _ (.putEq (by rw [hc3]) (.refl _)) rfl) rfl) rfl))
  refine un (a1 rfl ?_)
  refine gjoin 8 (d := 35) (v := (B ((((decide (x_.Kind = 2)) || (decide (x_.Kind = 5))) || (decide (x_.Name = []))) && ((decide (x_.Kind = 2)) || (decide ((x_.Attrs.length : Int) = 0)))))) (fun X hX => ?_) ?_
  · refine split2 (fun hc5 => ?_) (fun hc5 => ?_)
    · refine gt rfl (a1 rfl ?_)
      refine gt rfl (a1 rfl ?_)
      refine gjoin 5 (d := 34) (v := (B ((decide (x_.Kind = 2)) || (decide ((x_.Attrs.length : Int) = 0))))) (fun X hX => ?_) ?_
      · refine split2 (fun hc4 => ?_) (fun hc4 => ?_)
        · refine gs rfl rfl ?_
          refine gs rfl rfl ?_
          refine gs rfl rfl ?_
          refine gs rfl rfl ?_
          refine gt rfl (a1 (v := (B true)) rfl ?_)
          refine dnil ?_
          exact hX _ (.putEq (by rw [hc4]; rfl) (.skip _ _ (.skip _ _ (.skip _ _ (.skip _ _ (.putEq (by rw [hc4]) (.refl _)) rfl) rfl) rfl) rfl))
        · refine gt rfl (a1 (v := (.c (.ref 0 6 0 2))) rfl ?_)
          refine gt rfl (a1 (v := (.c (.ro false 2 (x_.Attrs.map e_TAttr)))) rfl ?_)
          refine gt rfl (a1 (v := (I (x_.Attrs.length : Int))) (s_len (e := e_TAttr) (xs := x_.Attrs) rfl) ?_)
          refine gt rfl (a1 (v := (B (decide ((x_.Attrs.length : Int) = 0)))) rfl ?_)
          refine gt rfl (a1 (v := (B (decide ((x_.Attrs.length : Int) = 0)))) rfl ?_)
          refine dnil ?_
          exact hX _ (.putEq (by rw [hc4]; rfl) (.skip _ _ (.skip _ _ (.skip _ _ (.skip _ _ (.putEq (by rw [hc4]) (.refl _)) rfl) rfl) rfl) rfl))
      refine un (a1 (v := (B ((decide (x_.Kind = 2)) || (decide ((x_.Attrs.length : Int) = 0))))) rfl ?_)
      refine dnil ?_
      exact hX _ (.putEq (by rw [hc5]; rfl) (.skip _ _ (.skip _ _ (.skip _ _ (.putEq (by rw [hc5]) (.refl _)) rfl) rfl) rfl))
    · refine gs rfl rfl ?_
      refine gs rfl rfl ?_
      refine gu rfl ?_
      refine gu rfl ?_
      refine gu rfl ?_
      refine gu rfl ?_
      refine gs rfl rfl ?_
      refine un (a1 (v := (B false)) rfl ?_)
      refine dnil ?_
      exact hX _ (.putEq (by rw [hc5]; rfl) (.skip _ _ (.skip _ _ (.skip _ _ (.skip _ _ (.skip _ _ (.skip _ _ (.skip _ _ (.putEq (by rw [hc5]) (.refl _)) rfl) rfl) rfl) rfl) rfl) rfl) rfl))
  refine un (a1 rfl ?_)
  refine gjoin 7 (d := 43) (v := (B (((((decide (x_.Kind = 2)) || (decide (x_.Kind = 5))) || (decide (x_.Name = []))) && ((decide (x_.Kind = 2)) || (decide ((x_.Attrs.length : Int) = 0)))) && (((decide (x_.Kind = 3)) || (decide (x_.Kind = 4))) || (decide (x_.Text = [])))))) (fun X hX => ?_) ?_
  · refine split2 (fun hc7 => ?_) (fun hc7 => ?_)
    · refine gt rfl (a1 rfl ?_)
      refine gt rfl (a1 rfl ?_)
      refine gjoin 4 (d := 42) (v := (B (((decide (x_.Kind = 3)) || (decide (x_.Kind = 4))) || (decide (x_.Text = []))))) (fun X hX => ?_) ?_
      · refine split2 (fun hc6 => ?_) (fun hc6 => ?_)
        · refine gs rfl rfl ?_
          refine gs rfl rfl ?_
          refine gs rfl rfl ?_
          refine gt rfl (a1 (v := (B true)) rfl ?_)
          refine dnil ?_
          exact hX _ (.putEq (by rw [hc6]; rfl) (.skip _ _ (.skip _ _ (.skip _ _ (.putEq (by rw [hc6]) (.refl _)) rfl) rfl) rfl))
        · refine gt rfl (a1 (v := (.c (.ref 0 6 0 3))) rfl ?_)
          refine gt rfl (a1 (v := (S x_.Text)) rfl ?_)
          refine gt rfl (a1 (v := (B (decide (x_.Text = [])))) rfl ?_)
          refine gt rfl (a1 (v := (B (decide (x_.Text = [])))) rfl ?_)
          refine dnil ?_
          exact hX _ (.putEq (by rw [hc6]; rfl) (.skip _ _ (.skip _ _ (.skip _ _ (.putEq (by rw [hc6]) (.refl _)) rfl) rfl) rfl))
      refine un (a1 (v := (B (((decide (x_.Kind = 3)) || (decide (x_.Kind = 4))) || (decide (x_.Text = []))))) rfl ?_)
      refine dnil ?_
      exact hX _ (.putEq (by rw [hc7]; rfl) (.skip _ _ (.skip _ _ (.skip _ _ (.putEq (by rw [hc7]) (.refl _)) rfl) rfl) rfl))
    · refine gs rfl rfl ?_
      refine gs rfl rfl ?_
      refine gu rfl ?_
      refine gu rfl ?_
      refine gu rfl ?_
      refine gs rfl rfl ?_
      refine un (a1 (v := (B false)) rfl ?_)
      refine dnil ?_
      exact hX _ (.putEq (by rw [hc7]; rfl) (.skip _ _ (.skip _ _ (.skip _ _ (.skip _ _ (.skip _ _ (.skip _ _ (.putEq (by rw [hc7]) (.refl _)) rfl) rfl) rfl) rfl) rfl) rfl))
  refine un (a1 rfl ?_)
  refine gjoin 10 (d := 54) (v := (B ((((((decide (x_.Kind = 2)) || (decide (x_.Kind = 5))) || (decide (x_.Name = []))) && ((decide (x_.Kind = 2)) || (decide ((x_.Attrs.length : Int) = 0)))) && (((decide (x_.Kind = 3)) || (decide (x_.Kind = 4))) || (decide (x_.Text = [])))) && ((dom_parent x_.Kind) || (decide ((x_.Kids.length : Int) = 0)))))) (fun X hX => ?_) ?_
  · refine split2 (fun hc9 => ?_) (fun hc9 => ?_)
    · refine gt rfl (a1 (v := (.c (.ref 0 6 0 0))) rfl ?_)
      refine gt rfl (a1 (v := (I x_.Kind)) rfl ?_)
      refine gt rfl (ac_pure (dom_parent_ok (mL := mL) x_.Kind) rfl rfl rfl ?_)
      refine gt rfl (a1 rfl ?_)
      refine gjoin 5 (d := 53) (v := (B ((dom_parent x_.Kind) || (decide ((x_.Kids.length : Int) = 0))))) (fun X hX => ?_) ?_
      · refine split2 (fun hc8 => ?_) (fun hc8 => ?_)
        · refine gs rfl rfl ?_
          refine gs rfl rfl ?_
          refine gs rfl rfl ?_
          refine gs rfl rfl ?_
          refine gt rfl (a1 (v := (B true)) rfl ?_)
          refine dnil ?_
          exact hX _ (.putEq (by rw [hc8]; rfl) (.skip _ _ (.skip _ _ (.skip _ _ (.skip _ _ (.putEq (by rw [hc8]) (.refl _)) rfl) rfl) rfl) rfl))
        · refine gt rfl (a1 (v := (.c (.ref 0 6 0 5))) rfl ?_)
          refine gt rfl (a1 (v := (.c (.ro false 1 (x_.Kids.map eI)))) rfl ?_)
          refine gt rfl (a1 (v := (I (x_.Kids.length : Int))) (s_len (e := eI) (xs := x_.Kids) rfl) ?_)
          refine gt rfl (a1 (v := (B (decide ((x_.Kids.length : Int) = 0)))) rfl ?_)
          refine gt rfl (a1 (v := (B (decide ((x_.Kids.length : Int) = 0)))) rfl ?_)
          refine dnil ?_
          exact hX _ (.putEq (by rw [hc8]; rfl) (.skip _ _ (.skip _ _ (.skip _ _ (.skip _ _ (.putEq (by rw [hc8]) (.refl _)) rfl) rfl) rfl) rfl))
      refine un (a1 (v := (B ((dom_parent x_.Kind) || (decide ((x_.Kids.length : Int) = 0))))) rfl ?_)
      refine dnil ?_
      exact hX _ (.putEq (by rw [hc9]; rfl) (.skip _ _ (.skip _ _ (.skip _ _ (.skip _ _ (.skip _ _ (.putEq (by rw [hc9]) (.refl _)) rfl) rfl) rfl) rfl) rfl))
    · refine gs rfl rfl ?_
      refine gs rfl rfl ?_
      refine gs rfl rfl ?_
      refine gs rfl rfl ?_
      refine gu rfl ?_
      refine gu rfl ?_
      refine gu rfl ?_
      refine gu rfl ?_
      refine gs rfl rfl ?_
      refine un (a1 (v := (B false)) rfl ?_)
      refine dnil ?_
      exact hX _ (.putEq (by rw [hc9]; rfl) (.skip _ _ (.skip _ _ (.skip _ _ (.skip _ _ (.skip _ _ (.skip _ _ (.skip _ _ (.skip _ _ (.skip _ _ (.putEq (by rw [hc9]) (.refl _)) rfl) rfl) rfl) rfl) rfl) rfl) rfl) rfl) rfl))
  refine un (a1 rfl ?_)
  refine dnil ?_
  refine Sv.ret ?_
  subst h
  exact ⟨_, .refl _, _, rfl, ⟨upd (fun _ => none) 0 (some (B ((((((decide (x_.Kind = 2)) || (decide (x_.Kind = 5))) || (decide (x_.Name = []))) && ((decide (x_.Kind = 2)) || (decide ((x_.Attrs.length : Int) = 0)))) && (((decide (x_.Kind = 3)) || (decide (x_.Kind = 4))) || (decide (x_.Text = [])))) && ((dom_parent x_.Kind) || (decide ((x_.Kids.length : Int) = 0)))))), (fun _ => none), 0⟩, (B ((((((decide (x_.Kind = 2)) || (decide (x_.Kind = 5))) || (decide (x_.Name = []))) && ((decide (x_.Kind = 2)) || (decide ((x_.Attrs.length : Int) = 0)))) && (((decide (x_.Kind = 3)) || (decide (x_.Kind = 4))) || (decide (x_.Text = [])))) && ((dom_parent x_.Kind) || (decide ((x_.Kids.length : Int) = 0))))), weak_canon [] rfl List.nodup_nil (Nat.le_refl _) (fun b h => absurd h (Nat.not_lt_zero _)) (.cons rfl (avAs_free rfl) .nil) .nil, rfl, rfl, rfl, rfl⟩
noncomputable abbrev strings_IndexByte (s_ : (List UInt8)) (c_ : Int) : Option Int := indexByte? s_ c_
/-- strings.IndexByte, by the contract of the shelf -/
theorem strings_IndexByte_ok {mL : Int} {s_ : (List UInt8)} {c_ : Int} {r : Int} (h : strings_IndexByte s_ c_ = some r) : CPure Tryd.prog (GG mL) 100 [(S s_), (.c (.val (.int .u8 c_)))] (I r) := indexByte_ok Tryd.lays137 h
noncomputable abbrev strings_Trim (s_ : (List UInt8)) (cutset_ : (List UInt8)) : Option (List UInt8) := trim? s_ cutset_
/-- strings.Trim, by the contract of the shelf -/
theorem strings_Trim_ok {mL : Int} {s_ : (List UInt8)} {cutset_ : (List UInt8)} {r : (List UInt8)} (h : strings_Trim s_ cutset_ = some r) : CPure Tryd.prog (GG mL) 180 [(S s_), (S cutset_)] (S r) := trim_ok Tryd.lays160 (by kernel_rfl) h
def a147_c0 : ACode := .ret
def a147 : AFunc := ⟨2, [(.tmp 4)], (.seq (.region [⟨(some 4), (.mov (.const (.c (.val (.bool false))))), none⟩])
 (.seq (.region [⟨(some 5), (.mov (.tmp 0)), none⟩, ⟨(some 6), (.bin .neq (.tmp 5) (.const (.c (.str [])))), none⟩, ⟨(some 7), (.mov (.tmp 6)), none⟩, ⟨(some 8), (.mov (.tmp 0)), (some (7, true))⟩, ⟨(some 9), (.lenS (.tmp 8)), (some (7, true))⟩, ⟨(some 10), (.bin .leq (.tmp 9) (.const (.c (.val (.int .i64 40))))), (some (7, true))⟩, ⟨(some 11), (.pick (.tmp 7) (.tmp 10) (.const (.c (.val (.bool false))))), none⟩, ⟨(some 12), (.mov (.tmp 11)), none⟩, ⟨(some 13), (.mov (.tmp 1)), (some (12, true))⟩, ⟨(some 14), (.mov (.tmp 0)), (some (12, true))⟩, ⟨(some 15), (.idxS (.tmp 14) (.const (.c (.val (.int .i64 0))))), (some (12, true))⟩, ⟨(some 16), (.call 100 [(.tmp 13), (.tmp 15)]), (some (12, true))⟩, ⟨(some 17), (.bin .geq (.tmp 16) (.const (.c (.val (.int .i64 0))))), (some (12, true))⟩, ⟨(some 18), (.pick (.tmp 12) (.tmp 17) (.const (.c (.val (.bool false))))), none⟩, ⟨(some 19), (.mov (.tmp 18)), none⟩, ⟨(some 20), (.mov (.tmp 0)), (some (19, true))⟩, ⟨(some 21), (.call 180 [(.tmp 20), (.const (.c (.str [97, 98, 99, 100, 101, 102, 103, 104, 105, 106, 107, 108, 109, 110, 111, 112, 113, 114, 115, 116, 117, 118, 119, 120, 121, 122, 48, 49, 50, 51, 52, 53, 54, 55, 56, 57, 45, 95, 58])))]), (some (19, true))⟩, ⟨(some 22), (.bin .eql (.tmp 21) (.const (.c (.str [])))), (some (19, true))⟩, ⟨(some 23), (.pick (.tmp 19) (.tmp 22) (.const (.c (.val (.bool false))))), none⟩, ⟨(some 4), (.mov (.tmp 23)), none⟩])
 a147_c0))⟩
set_option maxRecDepth 100000 in
theorem c147 : compFunc Tryd.prog 147 = some a147 := by kernel_rfl
def dom_named_post (r : Bool) : AV → Heap → Nat → Prop := fun v h' n' => v = (B r) ∧ (h' = (fun _ => none)) ∧ n' = 0
noncomputable def dom_named_j1 (v4 : Bool) : Option Bool :=
  some v4
theorem dom_named_j1_ok {mL : Int} {v4 : Bool} {o : Bool} (h : dom_named_j1 v4 = some o) :
    Sv Tryd.prog (GG mL) 0 a147_c0 (Ends a147.results 0 (dom_named_post o)) ⟨(upd (fun _ => none) 4 (some (B v4))), (fun _ => none), 0⟩ := by
  unfold dom_named_j1 at h
  refine Sv.ret ?_
  replace h := Option.some.inj h
  subst h
  exact ⟨_, .refl _, _, rfl, ⟨upd (fun _ => none) 0 (some (B v4)), (fun _ => none), 0⟩, (B v4), weak_canon [] rfl List.nodup_nil (Nat.le_refl _) (fun b h => absurd h (Nat.not_lt_zero _)) (.cons rfl (avAs_free rfl) .nil) .nil, rfl, rfl, rfl, rfl⟩
/-- clerestory/dom.named -/
noncomputable def dom_named (s_ : (List UInt8)) (first_ : (List UInt8)) : Option Bool :=
  if ((!decide (s_ = [])) && (decide ((s_.length : Int) ≤ 40))) then
    (at? s_ 0).bind fun c_ =>
    (strings_IndexByte first_ (c_.toNat : Int)).bind fun r_ =>
    if decide (0 ≤ r_) then
      (strings_Trim s_ [97, 98, 99, 100, 101, 102, 103, 104, 105, 106, 107, 108, 109, 110, 111, 112, 113, 114, 115, 116, 117, 118, 119, 120, 121, 122, 48, 49, 50, 51, 52, 53, 54, 55, 56, 57, 45, 95, 58]).bind fun r_1 =>
      dom_named_j1 (decide (r_1 = []))
    else
      dom_named_j1 false
  else
    dom_named_j1 false
theorem dom_named_ok {mL : Int} {s_ : (List UInt8)} {first_ : (List UInt8)} {r : Bool} (h : dom_named s_ first_ = some r) : CPure Tryd.prog (GG mL) 147 [(S s_), (S first_)] (B r) := by
  refine acalls_of_sv hmix c147 (R := dom_named_post r) ?_
  unfold dom_named at h
  refine Sv.seq ?_
  refine Sv.region ?_
  refine un (a1 rfl ?_)
  refine dnil ?_
  refine Sv.seq ?_
  refine Sv.region ?_
  refine un (a1 rfl ?_)
  refine un (a1 (v := (B (!decide (s_ = [])))) rfl ?_)
  refine un (a1 rfl ?_)
  refine gjoin 4 (d := 11) (v := (B ((!decide (s_ = [])) && (decide ((s_.length : Int) ≤ 40))))) (fun X hX => ?_) ?_
  · refine split2 (fun hc1 => ?_) (fun hc1 => ?_)
    · refine gt rfl (a1 rfl ?_)
      refine gt rfl (a1 (v := (I (s_.length : Int))) rfl ?_)
      refine gt rfl (a1 (v := (B (decide ((s_.length : Int) ≤ 40)))) rfl ?_)
      refine un (a1 (v := (B (decide ((s_.length : Int) ≤ 40)))) rfl ?_)
      refine dnil ?_
      exact hX _ (.putEq (by rw [hc1]; rfl) (.skip _ _ (.skip _ _ (.skip _ _ (.putEq (by rw [hc1]) (.refl _)) rfl) rfl) rfl))
    · refine gs rfl rfl ?_
      refine gs rfl rfl ?_
      refine gs rfl rfl ?_
      refine un (a1 (v := (B false)) rfl ?_)
      refine dnil ?_
      exact hX _ (.putEq (by rw [hc1]; rfl) (.skip _ _ (.skip _ _ (.skip _ _ (.putEq (by rw [hc1]) (.refl _)) rfl) rfl) rfl))
  refine un (a1 rfl ?_)
  refine split2 (fun hc2 => ?_) (fun hc2 => ?_)
  · replace h := ifT hc2 h
    refine gt rfl (a1 rfl ?_)
    refine gt rfl (a1 rfl ?_)
    obtain ⟨c_, hx1, h⟩ := bnd h
    refine gt rfl (a1 (v := (.c (.val (.int .u8 (c_.toNat : Int))))) (s_idxS rfl rfl hx1) ?_)
    obtain ⟨r_, hr1, h⟩ := bnd h
    refine gt rfl (ac_pure (strings_IndexByte_ok hr1) rfl rfl rfl ?_)
    refine gt rfl (a1 (v := (B (decide (0 ≤ r_)))) rfl ?_)
    refine un (a1 (v := (B (decide (0 ≤ r_)))) rfl ?_)
    refine un (a1 rfl ?_)
    refine split2 (fun hc3 => ?_) (fun hc3 => ?_)
    · replace h := ifT hc3 h
      refine gt rfl (a1 rfl ?_)
      obtain ⟨r_1, hr2, h⟩ := bnd h
      refine gt rfl (ac_pure (strings_Trim_ok hr2) rfl rfl rfl ?_)
      refine gt rfl (a1 (v := (B (decide (r_1 = [])))) rfl ?_)
      refine un (a1 (v := (B (decide (r_1 = [])))) rfl ?_)
      refine un (a1 rfl ?_)
      refine dnil ?_
      exact Sv.weak (weak_canon [] rfl (by decide) (by decide) (fun b h => absurd h (Nat.not_lt_zero _)) (.cons rfl (avAs_free rfl) .nil) .nil) (dom_named_j1_ok h)
    · replace h := ifF hc3 h
      refine gs rfl rfl ?_
      refine gs rfl rfl ?_
      refine gs rfl rfl ?_
      refine un (a1 (v := (B false)) rfl ?_)
      refine un (a1 rfl ?_)
      refine dnil ?_
      exact Sv.weak (weak_canon [] rfl (by decide) (by decide) (fun b h => absurd h (Nat.not_lt_zero _)) (.cons rfl (avAs_free rfl) .nil) .nil) (dom_named_j1_ok h)
  · replace h := ifF hc2 h
    refine gs rfl rfl ?_
    refine gs rfl rfl ?_
    refine gs rfl rfl ?_
    refine gs rfl rfl ?_
    refine gs rfl rfl ?_
    refine un (a1 (v := (B false)) rfl ?_)
    refine un (a1 rfl ?_)
    refine gs rfl rfl ?_
    refine gs rfl rfl ?_
    refine gs rfl rfl ?_
    refine un (a1 (v := (B false)) rfl ?_)
    refine un (a1 rfl ?_)
    refine dnil ?_
    exact Sv.weak (weak_canon [] rfl (by decide) (by decide) (fun b h => absurd h (Nat.not_lt_zero _)) (.cons rfl (avAs_free rfl) .nil) .nil) (dom_named_j1_ok h)
def a120 : AFunc := ⟨1, [(.tmp 2)], (.seq (.region [⟨(some 2), (.mov (.const (.c (.val (.bool false))))), none⟩])
 (.seq (.region [⟨(some 3), (.mov (.tmp 0)), none⟩, ⟨(some 4), (.slStr (.const (.c (.str [97, 98, 99, 100, 101, 102, 103, 104, 105, 106, 107, 108, 109, 110, 111, 112, 113, 114, 115, 116, 117, 118, 119, 120, 121, 122, 48, 49, 50, 51, 52, 53, 54, 55, 56, 57, 45, 95, 58]))) none (some (.const (.c (.val (.int .i64 26)))))), none⟩, ⟨(some 5), (.call 147 [(.tmp 3), (.tmp 4)]), none⟩, ⟨(some 2), (.mov (.tmp 5)), none⟩])
 .ret))⟩
set_option maxRecDepth 100000 in
theorem c120 : compFunc Tryd.prog 120 = some a120 := by kernel_rfl
def dom_Name_post (r : Bool) : AV → Heap → Nat → Prop := fun v h' n' => v = (B r) ∧ (h' = (fun _ => none)) ∧ n' = 0
/-- clerestory/dom.Name -/
noncomputable def dom_Name (s_ : (List UInt8)) : Option Bool :=
  (sub? [97, 98, 99, 100, 101, 102, 103, 104, 105, 106, 107, 108, 109, 110, 111, 112, 113, 114, 115, 116, 117, 118, 119, 120, 121, 122, 48, 49, 50, 51, 52, 53, 54, 55, 56, 57, 45, 95, 58] 0 26).bind fun r_ =>
  (dom_named s_ r_).bind fun r_1 =>
  some r_1
theorem dom_Name_ok {mL : Int} {s_ : (List UInt8)} {r : Bool} (h : dom_Name s_ = some r) : CPure Tryd.prog (GG mL) 120 [(S s_)] (B r) := by
  refine acalls_of_sv hmix c120 (R := dom_Name_post r) ?_
  unfold dom_Name at h
  refine Sv.seq ?_
  refine Sv.region ?_
  refine un (a1 rfl ?_)
  refine dnil ?_
  refine Sv.seq ?_
  refine Sv.region ?_
  refine un (a1 rfl ?_)
  obtain ⟨r_, hx1, h⟩ := bnd h
  refine un (a1 (v := (S r_)) (s_slStr rfl rfl rfl hx1) ?_)
  obtain ⟨r_1, hr1, h⟩ := bnd h
  refine un (ac_pure (dom_named_ok hr1) rfl rfl rfl ?_)
  refine un (a1 rfl ?_)
  refine dnil ?_
  refine Sv.ret ?_
  replace h := Option.some.inj h
  subst h
  exact ⟨_, .refl _, _, rfl, ⟨upd (fun _ => none) 0 (some (B r_1)), (fun _ => none), 0⟩, (B r_1), weak_canon [] rfl List.nodup_nil (Nat.le_refl _) (fun b h => absurd h (Nat.not_lt_zero _)) (.cons rfl (avAs_free rfl) .nil) .nil, rfl, rfl, rfl, rfl⟩
def a148 : AFunc := ⟨1, [(.tmp 2)], (.seq (.region [⟨(some 2), (.mov (.const (.c (.val (.bool false))))), none⟩])
 (.seq (.region [⟨(some 3), (.mov (.tmp 0)), none⟩, ⟨(some 4), (.slStr (.const (.c (.str [97, 98, 99, 100, 101, 102, 103, 104, 105, 106, 107, 108, 109, 110, 111, 112, 113, 114, 115, 116, 117, 118, 119, 120, 121, 122, 48, 49, 50, 51, 52, 53, 54, 55, 56, 57, 45, 95, 58]))) none (some (.const (.c (.val (.int .i64 26)))))), none⟩, ⟨(some 5), (.bin .add (.tmp 4) (.const (.c (.str [45, 95])))), none⟩, ⟨(some 6), (.call 147 [(.tmp 3), (.tmp 5)]), none⟩, ⟨(some 2), (.mov (.tmp 6)), none⟩])
 .ret))⟩
set_option maxRecDepth 100000 in
theorem c148 : compFunc Tryd.prog 148 = some a148 := by kernel_rfl
def dom_attrName_post (r : Bool) : AV → Heap → Nat → Prop := fun v h' n' => v = (B r) ∧ (h' = (fun _ => none)) ∧ n' = 0
/-- clerestory/dom.attrName -/
noncomputable def dom_attrName (s_ : (List UInt8)) : Option Bool :=
  (sub? [97, 98, 99, 100, 101, 102, 103, 104, 105, 106, 107, 108, 109, 110, 111, 112, 113, 114, 115, 116, 117, 118, 119, 120, 121, 122, 48, 49, 50, 51, 52, 53, 54, 55, 56, 57, 45, 95, 58] 0 26).bind fun r_ =>
  (cat? r_ [45, 95]).bind fun r_1 =>
  (dom_named s_ r_1).bind fun r_2 =>
  some r_2
theorem dom_attrName_ok {mL : Int} {s_ : (List UInt8)} {r : Bool} (h : dom_attrName s_ = some r) : CPure Tryd.prog (GG mL) 148 [(S s_)] (B r) := by
  refine acalls_of_sv hmix c148 (R := dom_attrName_post r) ?_
  unfold dom_attrName at h
  refine Sv.seq ?_
  refine Sv.region ?_
  refine un (a1 rfl ?_)
  refine dnil ?_
  refine Sv.seq ?_
  refine Sv.region ?_
  refine un (a1 rfl ?_)
  obtain ⟨r_, hx1, h⟩ := bnd h
  refine un (a1 (v := (S r_)) (s_slStr rfl rfl rfl hx1) ?_)
  obtain ⟨r_1, hx2, h⟩ := bnd h
  refine un (a1 (v := (S r_1)) (s_cat rfl rfl hx2) ?_)
  obtain ⟨r_2, hr1, h⟩ := bnd h
  refine un (ac_pure (dom_named_ok hr1) rfl rfl rfl ?_)
  refine un (a1 rfl ?_)
  refine dnil ?_
  refine Sv.ret ?_
  replace h := Option.some.inj h
  subst h
  exact ⟨_, .refl _, _, rfl, ⟨upd (fun _ => none) 0 (some (B r_2)), (fun _ => none), 0⟩, (B r_2), weak_canon [] rfl List.nodup_nil (Nat.le_refl _) (fun b h => absurd h (Nat.not_lt_zero _)) (.cons rfl (avAs_free rfl) .nil) .nil, rfl, rfl, rfl, rfl⟩
def a182 : AFunc := ⟨2, [(.tmp 3)], (.seq (.region [⟨(some 2), (.box (.tmp 0)), none⟩, ⟨(some 3), (.mov (.const (.c (.val (.bool false))))), none⟩])
 (.seq (.region [⟨(some 4), (.faddr 0 (.tmp 2)), none⟩, ⟨(some 5), (.load false 1 (.tmp 4)), none⟩, ⟨(some 6), (.load false 1 (.tmp 1)), none⟩, ⟨(some 7), (.bin .eql (.tmp 5) (.tmp 6)), none⟩, ⟨(some 3), (.mov (.tmp 7)), none⟩])
 .ret))⟩
set_option maxRecDepth 100000 in
theorem c182 : compFunc Tryd.prog 182 = some a182 := by kernel_rfl
def dom_find_fn1_post (r : Bool) : AV → Heap → Nat → Prop := fun v h' n' => v = (B r) ∧ (h' = (fun _ => none)) ∧ n' = 0
/-- clerestory/dom.find$1 -/
def dom_find_fn1 (a_ : TAttr) (v1 : (List UInt8)) : Bool :=
  decide (a_.Name = v1)
theorem dom_find_fn1_ok {mL : Int} (a_ : TAttr) (v1 : (List UInt8)) : CPure Tryd.prog (GG mL) 182 [(.agg [.str a_.Name, .str a_.Value]), (.c (.rop [.str v1]))] (B (dom_find_fn1 a_ v1)) := by
  generalize h : dom_find_fn1 a_ v1 = o
  refine acalls_of_sv hmix c182 (R := dom_find_fn1_post o) ?_
  unfold dom_find_fn1 at h
  refine Sv.seq ?_
  refine Sv.region ?_
  refine un (a2v (v := (.c (.ref 0 2 0 0))) (h' := upd _ 0 (some (.cells 2 [[.str a_.Name, .str a_.Value]]))) (n' := 1) rfl rfl (fun h => by cases h) ?_)
  refine un (a1 rfl ?_)
  refine dnil ?_
  refine Sv.seq ?_
  refine Sv.region ?_
  refine un (a1 (v := (.c (.ref 0 2 0 0))) rfl ?_)
  refine un (a1 (v := (S a_.Name)) rfl ?_)
  refine un (a1 (v := (S v1)) rfl ?_)
  refine un (a1 (v := (B (decide (a_.Name = v1)))) rfl ?_)
  refine un (a1 rfl ?_)
  refine dnil ?_
  refine Sv.ret ?_
  subst h
  exact ⟨_, .refl _, _, rfl, ⟨upd (fun _ => none) 0 (some (B (decide (a_.Name = v1)))), (fun _ => none), 0⟩, (B (decide (a_.Name = v1))), weak_canon [] rfl List.nodup_nil (Nat.le_refl _) (fun b h => absurd h (Nat.not_lt_zero _)) (.cons rfl (avAs_free rfl) .nil) .nil, rfl, rfl, rfl, rfl⟩
def a181_c0 : ACode := (.seq (.region [⟨(some 9), (.bin .lss (.tmp 8) (.tmp 7)), none⟩])
 (.seq (.cond (.tmp 9) .skip (.exit 0))
 (.seq (.block 1 (.seq (.region [⟨(some 10), (.mov (.tmp 8)), none⟩, ⟨(some 5), (.mov (.tmp 10)), none⟩])
 (.seq (.region [⟨(some 11), (.mov (.tmp 1)), none⟩, ⟨(some 12), (.mov (.tmp 0)), none⟩, ⟨(some 13), (.mov (.tmp 5)), none⟩, ⟨(some 14), (.iaddr 2 (.tmp 12) (.tmp 13)), none⟩, ⟨(some 15), (.load true 2 (.tmp 14)), none⟩, ⟨(some 16), (.callv (.tmp 11) [(.tmp 15)]), none⟩])
 (.cond (.tmp 16) (.seq (.region [⟨(some 17), (.mov (.tmp 5)), none⟩, ⟨(some 4), (.mov (.tmp 17)), none⟩])
 .ret) .skip))))
 (.region [⟨(some 18), (.bin .add (.tmp 8) (.const (.c (.val (.int .i64 1))))), none⟩, ⟨(some 8), (.mov (.tmp 18)), none⟩]))))
def a181 : AFunc := ⟨2, [(.tmp 4)], (.seq (.region [⟨(some 4), (.mov (.const (.c (.val (.int .i64 0))))), none⟩])
 (.seq (.seq (.region [⟨(some 6), (.mov (.tmp 0)), none⟩, ⟨(some 7), (.len (.tmp 6)), none⟩, ⟨(some 8), (.mov (.const (.c (.val (.int .i64 0))))), none⟩])
 (.block 0 (.loop a181_c0)))
 (.seq (.region [⟨(some 4), (.mov (.const (.c (.val (.int .i64 (-1)))))), none⟩])
 .ret)))⟩
set_option maxRecDepth 100000 in
theorem c181 : compFunc Tryd.prog 181 = some a181 := by kernel_rfl
def slices_IndexFunc_Attr_post (r : Int) : AV → Heap → Nat → Prop := fun v h' n' => v = (I r) ∧ (h' = (fun _ => none)) ∧ n' = 0
noncomputable def slices_IndexFunc_Attr_l0 (s_ : (List TAttr)) (fc : (List UInt8)) (K0_ : Unit → Option Int) : Nat → Int → Option Int
  | 0, _ => none
  | k + 1, v8 =>
    if decide (v8 < (s_.length : Int)) then
      (at? s_ v8).bind fun x_ =>
      if (dom_find_fn1 x_ fc) then
        some v8
      else
        (slices_IndexFunc_Attr_l0 s_ fc K0_ k) (wi (v8 + 1))
    else
      K0_ ()
theorem slices_IndexFunc_Attr_l0_ok {mL : Int} {Q : AExit → St → Prop} {s_ : (List TAttr)} {fc : (List UInt8)} {K0_ : Unit → Option Int} {k : Nat} {v8 : Int} {o : Int} (h : slices_IndexFunc_Attr_l0 s_ fc K0_ k v8 = some o)
    (hK0 : ∀ (_ : Unit), K0_ () = some o → ∀ s, Weak 0 s ⟨(fun _ => none), (fun _ => none), 0⟩ → Q (.exit 0) s)
    (hr : ∀ s, Ends a181.results 0 (slices_IndexFunc_Attr_post o) .ret s → Q .ret s) :
    Sv Tryd.prog (GG mL) 0 (.loop a181_c0) Q ⟨(upd (upd (upd (upd (fun _ => none) 0 (some (.c (.ro false 2 (s_.map e_TAttr))))) 1 (some (.c (.fn (.func 182) [] [.rop [.str fc]])))) 7 (some (I (s_.length : Int)))) 8 (some (I v8))), (fun _ => none), 0⟩ := by
  refine Sv.loop (I := fun k s => ∃ (v8 : Int), slices_IndexFunc_Attr_l0 s_ fc K0_ k v8 = some o ∧ s = ⟨(upd (upd (upd (upd (fun _ => none) 0 (some (.c (.ro false 2 (s_.map e_TAttr))))) 1 (some (.c (.fn (.func 182) [] [.rop [.str fc]])))) 7 (some (I (s_.length : Int)))) 8 (some (I v8))), (fun _ => none), 0⟩) (fun k s hI => ?_) ⟨v8, h, rfl⟩
  clear h
  clear v8
  obtain ⟨v8, h, rfl⟩ := hI
  cases k with
  | zero => cases h
  | succ k =>
  rw [slices_IndexFunc_Attr_l0] at h
  have hself : ∀ (v8 : Int), (slices_IndexFunc_Attr_l0 s_ fc K0_ k) v8 = some o → ∀ s, Weak 0 s ⟨(upd (upd (upd (upd (fun _ => none) 0 (some (.c (.ro false 2 (s_.map e_TAttr))))) 1 (some (.c (.fn (.func 182) [] [.rop [.str fc]])))) 7 (some (I (s_.length : Int)))) 8 (some (I v8))), (fun _ => none), 0⟩ → (AThen (fun s' => ∃ s'' k', Weak 0 s' s'' ∧ k' < k + 1 ∧ (fun k s => ∃ (v8 : Int), slices_IndexFunc_Attr_l0 s_ fc K0_ k v8 = some o ∧ s = ⟨(upd (upd (upd (upd (fun _ => none) 0 (some (.c (.ro false 2 (s_.map e_TAttr))))) 1 (some (.c (.fn (.func 182) [] [.rop [.str fc]])))) 7 (some (I (s_.length : Int)))) 8 (some (I v8))), (fun _ => none), 0⟩) k' s'') Q) .normal s := fun v8 h s hw => ⟨_, k, hw, Nat.lt_succ_self k, v8, h, rfl⟩
  refine Sv.seq ?_
  refine Sv.region ?_
  refine un (a1 (v := (B (decide (v8 < (s_.length : Int))))) rfl ?_)
  refine dnil ?_
  refine Sv.seq ?_
  refine Sv.cond (b := decide (v8 < (s_.length : Int))) rfl (fun hc1 => ?_) (fun hc1 => ?_)
  · replace h := ifT hc1 h
    refine Sv.skip ?_
    refine Sv.seq ?_
    refine Sv.block ?_
    refine Sv.seq ?_
    refine Sv.region ?_
    refine un (a1 rfl ?_)
    refine un (a1 rfl ?_)
    refine dnil ?_
    refine Sv.seq ?_
    refine Sv.region ?_
    refine un (a1 rfl ?_)
    refine un (a1 rfl ?_)
    refine un (a1 rfl ?_)
    obtain ⟨x_, hx1, h⟩ := bnd h
    refine un (a1 (v := (.c (.rop [.str x_.Name, .str x_.Value]))) (s_iaddr (e := e_TAttr) (xs := s_) rfl rfl hx1) ?_)
    refine un (a1 (v := (.agg [.str x_.Name, .str x_.Value])) rfl ?_)
    refine un (acv_gen (bs := []) («as» := [(.agg [.str x_.Name, .str x_.Value]), (.c (.rop [.str fc]))]) (h2 := _) (h1 := (fun _ => none)) rfl (by kernel_rfl) (dom_find_fn1_ok (mL := mL) x_ fc) rfl (.cons (avAs_free rfl) (.cons (avAs_free rfl) .nil)) (hsub_refl _) (.nil _) (fun _ => rfl) (by decide) (by decide) (.cons (avAs_free rfl) (.cons (avAs_free rfl) .nil)) .nil ?_)
    rintro _ _ _ hn ⟨rfl, rfl, rfl⟩
    refine ⟨.inl rfl, (rem [] _), fun hbd => (m3_rem (in_nil _) (.nil) hbd), (B (dom_find_fn1 x_ fc)), 0, rfl, rfl, ?_⟩
    refine dnil ?_
    refine Sv.cond (b := (dom_find_fn1 x_ fc)) rfl (fun hc2 => ?_) (fun hc2 => ?_)
    · replace h := ifT hc2 h
      refine Sv.seq ?_
      refine Sv.region ?_
      refine un (a1 rfl ?_)
      refine un (a1 rfl ?_)
      refine dnil ?_
      refine Sv.ret ?_
      replace h := Option.some.inj h
      subst h
      exact hr _ ⟨_, .refl _, _, rfl, ⟨upd (fun _ => none) 0 (some (I v8)), (fun _ => none), 0⟩, (I v8), weak_canon [] rfl List.nodup_nil (Nat.le_refl _) (fun b h => absurd h (Nat.not_lt_zero _)) (.cons rfl (avAs_free rfl) .nil) .nil, rfl, rfl, rfl, rfl⟩
    · replace h := ifF hc2 h
      refine Sv.skip ?_
      refine Sv.region ?_
      refine un (a1 (v := (I (wi (v8 + 1)))) rfl ?_)
      refine un (a1 rfl ?_)
      refine dnil ?_
      exact hself (wi (v8 + 1)) h _ (weak_canon [] rfl (by decide) (by decide) (fun b h => absurd h (Nat.not_lt_zero _)) (.cons rfl (avAs_free rfl) (.cons rfl (avAs_free rfl) (.cons rfl (.c (fn_as .nil (.cons (.same rfl) .nil))) (.cons rfl (avAs_free rfl) .nil)))) .nil)
  · replace h := ifF hc1 h
    refine Sv.exit ?_
    exact hK0 () h _ (weak_canon [] rfl (by decide) (by decide) (fun b h => absurd h (Nat.not_lt_zero _)) .nil .nil)
/-- slices.IndexFunc(()clerestory/api.Attr,clerestory/api.Attr) -/
noncomputable def slices_IndexFunc_Attr (s_ : (List TAttr)) (fc : (List UInt8)) : Option Int :=
  lim fun kk => slices_IndexFunc_Attr_l0 s_ fc (fun (_ : Unit) => 
      some (-1)) kk 0
theorem slices_IndexFunc_Attr_ok {mL : Int} {s_ : (List TAttr)} {fc : (List UInt8)} {r : Int} (h : slices_IndexFunc_Attr s_ fc = some r) : CPure Tryd.prog (GG mL) 181 [(.c (.ro false 2 (s_.map e_TAttr))), (.c (.fn (.func 182) [] [.rop [.str fc]]))] (I r) := by
  refine acalls_of_sv hmix c181 (R := slices_IndexFunc_Attr_post r) ?_
  unfold slices_IndexFunc_Attr at h
  refine Sv.seq ?_
  refine Sv.region ?_
  refine un (a1 rfl ?_)
  refine dnil ?_
  refine Sv.seq ?_
  refine Sv.seq ?_
  refine Sv.region ?_
  refine un (a1 rfl ?_)
  refine un (a1 (v := (I (s_.length : Int))) (s_len (e := e_TAttr) (xs := s_) rfl) ?_)
  refine un (a1 rfl ?_)
  refine dnil ?_
  refine Sv.block ?_
  obtain ⟨kk, h⟩ := lim_some h
  refine Sv.weak (weak_canon [] rfl (by decide) (by decide) (fun b h => absurd h (Nat.not_lt_zero _)) (.cons rfl (avAs_free rfl) (.cons rfl (avAs_free rfl) (.cons rfl (.c (fn_as .nil (.cons (.same rfl) .nil))) (.cons rfl (avAs_free rfl) .nil)))) .nil) (slices_IndexFunc_Attr_l0_ok h ?_ (fun s hs => hs))
  · intro _ h _ hw1
    refine Sv.weak hw1 ?_
    refine Sv.seq ?_
    refine Sv.region ?_
    refine un (a1 rfl ?_)
    refine dnil ?_
    refine Sv.ret ?_
    replace h := Option.some.inj h
    subst h
    exact ⟨_, .refl _, _, rfl, ⟨upd (fun _ => none) 0 (some (I (-1))), (fun _ => none), 0⟩, (I (-1)), weak_canon [] rfl List.nodup_nil (Nat.le_refl _) (fun b h => absurd h (Nat.not_lt_zero _)) (.cons rfl (avAs_free rfl) .nil) .nil, rfl, rfl, rfl, rfl⟩
def a149 : AFunc := ⟨2, [(.tmp 4)], (.seq (.region [⟨(some 3), (.box (.tmp 1)), none⟩, ⟨(some 4), (.mov (.const (.c (.val (.int .i64 0))))), none⟩])
 (.seq (.region [⟨(some 5), (.mov (.tmp 0)), none⟩, ⟨(some 6), (.mkfn (.func 182) [] [(.tmp 3)]), none⟩, ⟨(some 7), (.call 181 [(.tmp 5), (.tmp 6)]), none⟩, ⟨(some 4), (.mov (.tmp 7)), none⟩])
 .ret))⟩
set_option maxRecDepth 100000 in
theorem c149 : compFunc Tryd.prog 149 = some a149 := by kernel_rfl
def dom_find_post (r : Int) : AV → Heap → Nat → Prop := fun v h' n' => v = (I r) ∧ (h' = (fun _ => none)) ∧ n' = 0
/-- clerestory/dom.find -/
noncomputable def dom_find (l_ : (List TAttr)) (name : (List UInt8)) : Option Int :=
  (slices_IndexFunc_Attr l_ name).bind fun r_ =>
  some r_
theorem dom_find_ok {mL : Int} {l_ : (List TAttr)} {name : (List UInt8)} {r : Int} (h : dom_find l_ name = some r) : CPure Tryd.prog (GG mL) 149 [(.c (.ro false 2 (l_.map e_TAttr))), (S name)] (I r) := by
  refine acalls_of_sv hmix c149 (R := dom_find_post r) ?_
  unfold dom_find at h
  refine Sv.seq ?_
  refine Sv.region ?_
  refine un (a2v (v := (.c (.ref 0 1 0 0))) (h' := upd _ 0 (some (.cells 1 [[.str name]]))) (n' := 1) rfl rfl (fun h => by cases h) ?_)
  refine un (a1 rfl ?_)
  refine dnil ?_
  refine Sv.seq ?_
  refine Sv.region ?_
  refine un (a1 rfl ?_)
  refine un (a1 (v := (.c (.fn (.func 182) [] [.ref 0 1 0 0]))) rfl ?_)
  obtain ⟨r_, hr1, h⟩ := bnd h
  refine un (ac_gen (bs := []) («as» := [(.c (.ro false 2 (l_.map e_TAttr))), (.c (.fn (.func 182) [] [.rop [.str name]]))]) (h2 := (upd _ 0 none)) (h1 := (fun _ => none)) (slices_IndexFunc_Attr_ok hr1) rfl (.cons (avAs_free rfl) (.cons (.c (fn_as .nil (.cons (ref_ro rfl (gone rfl) (.cons (.same rfl) .nil) rfl) .nil))) .nil)) (hsub_none (hsub_refl _)) (.nil _) (fun _ => rfl) (by decide) (by decide) (.cons (avAs_free rfl) (.cons (.c (fn_as .nil (.cons (.same rfl) .nil))) .nil)) .nil ?_)
  rintro _ _ _ hn ⟨rfl, rfl, rfl⟩
  refine ⟨.inr ⟨rfl, .nil⟩, (rem [] _), fun hbd => (m3_rem (in_nil _) (.nil) hbd), (I r_), 1, rfl, rfl, ?_⟩
  refine un (a1 rfl ?_)
  refine dnil ?_
  refine Sv.ret ?_
  replace h := Option.some.inj h
  subst h
  exact ⟨_, .refl _, _, rfl, ⟨upd (fun _ => none) 0 (some (I r_)), (fun _ => none), 0⟩, (I r_), weak_canon [] rfl List.nodup_nil (Nat.le_refl _) (fun b h => absurd h (Nat.not_lt_zero _)) (.cons rfl (avAs_free rfl) .nil) .nil, rfl, rfl, rfl, rfl⟩
def a121_c0 : ACode := (.seq (.region [⟨(some 11), (.bin .lss (.tmp 10) (.tmp 9)), none⟩])
 (.seq (.cond (.tmp 11) .skip (.exit 0))
 (.seq (.block 1 (.seq (.region [⟨(some 12), (.mov (.tmp 10)), none⟩, ⟨(some 13), (.iaddr 2 (.tmp 8) (.tmp 10)), none⟩, ⟨(some 14), (.load true 2 (.tmp 13)), none⟩, ⟨(some 4), (.box (.const (.agg [(.str []), (.str [])]))), none⟩, ⟨(some 3), (.mov (.tmp 12)), none⟩, ⟨none, (.store 2 (.tmp 4) (.tmp 14)), none⟩])
 (.block 2 (.seq (.region [⟨(some 16), (.faddr 0 (.tmp 4)), none⟩, ⟨(some 17), (.load false 1 (.tmp 16)), none⟩, ⟨(some 18), (.call 148 [(.tmp 17)]), none⟩, ⟨(some 19), (.un .not (.tmp 18)), none⟩, ⟨(some 15), (.mov (.tmp 19)), none⟩])
 (.cond (.tmp 15) (.seq (.region [⟨(some 2), (.mov (.const (.c (.val (.int .i64 3))))), none⟩])
 .ret) (.seq (.region [⟨(some 21), (.faddr 1 (.tmp 4)), none⟩, ⟨(some 22), (.load false 1 (.tmp 21)), none⟩, ⟨(some 23), (.lenS (.tmp 22)), none⟩, ⟨(some 24), (.bin .gtr (.tmp 23) (.const (.c (.val (.int .i64 400))))), none⟩, ⟨(some 20), (.mov (.tmp 24)), none⟩])
 (.cond (.tmp 20) (.seq (.region [⟨(some 2), (.mov (.const (.c (.val (.int .i64 2))))), none⟩])
 .ret) (.seq (.drawn (.fin [(⟨(some 26), (.mov (.tmp 0)), none⟩, (0, 0)), (⟨(some 27), (.mov (.tmp 3)), none⟩, (0, 1)), (⟨(some 28), (.slSl 2 (.tmp 26) none (some (.tmp 27)) none), none⟩, (0, 2)), (⟨(some 29), (.faddr 0 (.tmp 4)), none⟩, (0, 3)), (⟨(some 30), (.load false 1 (.tmp 29)), none⟩, (0, 4)), (⟨(some 31), (.call 149 [(.tmp 28), (.tmp 30)]), none⟩, (2, 5)), (⟨(some 32), (.bin .geq (.tmp 31) (.const (.c (.val (.int .i64 0))))), none⟩, (0, 6)), (⟨(some 25), (.mov (.tmp 32)), none⟩, (0, 7))]))
 (.cond (.tmp 25) (.seq (.region [⟨(some 2), (.mov (.const (.c (.val (.int .i64 3))))), none⟩])
 .ret) .skip)))))))))
 (.region [⟨(some 33), (.bin .add (.tmp 10) (.const (.c (.val (.int .i64 1))))), none⟩, ⟨(some 10), (.mov (.tmp 33)), none⟩]))))
def a121 : AFunc := ⟨1, [(.tmp 2)], (.seq (.region [⟨(some 2), (.mov (.const (.c (.val (.int .i64 0))))), none⟩])
 (.seq (.seq (.region [⟨(some 5), (.mov (.tmp 0)), none⟩, ⟨(some 6), (.len (.tmp 5)), none⟩, ⟨(some 7), (.bin .gtr (.tmp 6) (.const (.c (.val (.int .i64 12))))), none⟩])
 (.cond (.tmp 7) (.seq (.region [⟨(some 2), (.mov (.const (.c (.val (.int .i64 2))))), none⟩])
 .ret) .skip))
 (.seq (.seq (.region [⟨(some 8), (.mov (.tmp 0)), none⟩, ⟨(some 9), (.len (.tmp 8)), none⟩, ⟨(some 10), (.mov (.const (.c (.val (.int .i64 0))))), none⟩])
 (.block 0 (.loop a121_c0)))
 (.seq (.region [⟨(some 2), (.mov (.const (.c (.val (.int .i64 0))))), none⟩])
 .ret))))⟩
set_option maxRecDepth 100000 in
theorem c121 : compFunc Tryd.prog 121 = some a121 := by kernel_rfl
def dom_attrs_post (r : Int) : AV → Heap → Nat → Prop := fun v h' n' => v = (I r) ∧ (h' = (fun _ => none)) ∧ n' = 0
noncomputable def dom_attrs_l0 (l_ : (List TAttr)) (K0_ : Unit → Option Int) : Nat → Int → Option Int
  | 0, _ => none
  | k + 1, v10 =>
    if decide (v10 < (l_.length : Int)) then
      (at? l_ v10).bind fun x_ =>
      (dom_attrName x_.Name).bind fun r_ =>
      if (!r_) then
        some 3
      else
        if decide (400 < (x_.Value.length : Int)) then
          some 2
        else
          (sub? l_ 0 v10).bind fun r_1 =>
          (dom_find r_1 x_.Name).bind fun r_2 =>
          if decide (0 ≤ r_2) then
            some 3
          else
            (dom_attrs_l0 l_ K0_ k) (wi (v10 + 1))
    else
      K0_ ()
theorem dom_attrs_l0_ok {mL : Int} {Q : AExit → St → Prop} {l_ : (List TAttr)} {K0_ : Unit → Option Int} {k : Nat} {v10 : Int} {o : Int} (h : dom_attrs_l0 l_ K0_ k v10 = some o)
    (hK0 : ∀ (_ : Unit), K0_ () = some o → ∀ s, Weak 0 s ⟨(fun _ => none), (fun _ => none), 0⟩ → Q (.exit 0) s)
    (hr : ∀ s, Ends a121.results 0 (dom_attrs_post o) .ret s → Q .ret s) :
    Sv Tryd.prog (GG mL) 0 (.loop a121_c0) Q ⟨(upd (upd (upd (upd (fun _ => none) 0 (some (.c (.ro false 2 (l_.map e_TAttr))))) 8 (some (.c (.ro false 2 (l_.map e_TAttr))))) 9 (some (I (l_.length : Int)))) 10 (some (I v10))), (fun _ => none), 0⟩ := by
  refine Sv.loop (I := fun k s => ∃ (v10 : Int), dom_attrs_l0 l_ K0_ k v10 = some o ∧ s = ⟨(upd (upd (upd (upd (fun _ => none) 0 (some (.c (.ro false 2 (l_.map e_TAttr))))) 8 (some (.c (.ro false 2 (l_.map e_TAttr))))) 9 (some (I (l_.length : Int)))) 10 (some (I v10))), (fun _ => none), 0⟩) (fun k s hI => ?_) ⟨v10, h, rfl⟩
  clear h
  clear v10
  obtain ⟨v10, h, rfl⟩ := hI
  cases k with
  | zero => cases h
  | succ k =>
  rw [dom_attrs_l0] at h
  have hself : ∀ (v10 : Int), (dom_attrs_l0 l_ K0_ k) v10 = some o → ∀ s, Weak 0 s ⟨(upd (upd (upd (upd (fun _ => none) 0 (some (.c (.ro false 2 (l_.map e_TAttr))))) 8 (some (.c (.ro false 2 (l_.map e_TAttr))))) 9 (some (I (l_.length : Int)))) 10 (some (I v10))), (fun _ => none), 0⟩ → (AThen (fun s' => ∃ s'' k', Weak 0 s' s'' ∧ k' < k + 1 ∧ (fun k s => ∃ (v10 : Int), dom_attrs_l0 l_ K0_ k v10 = some o ∧ s = ⟨(upd (upd (upd (upd (fun _ => none) 0 (some (.c (.ro false 2 (l_.map e_TAttr))))) 8 (some (.c (.ro false 2 (l_.map e_TAttr))))) 9 (some (I (l_.length : Int)))) 10 (some (I v10))), (fun _ => none), 0⟩) k' s'') Q) .normal s := fun v10 h s hw => ⟨_, k, hw, Nat.lt_succ_self k, v10, h, rfl⟩
  refine Sv.seq ?_
  refine Sv.region ?_
  refine un (a1 (v := (B (decide (v10 < (l_.length : Int))))) rfl ?_)
  refine dnil ?_
  refine Sv.seq ?_
  refine Sv.cond (b := decide (v10 < (l_.length : Int))) rfl (fun hc2 => ?_) (fun hc2 => ?_)
  · replace h := ifT hc2 h
    refine Sv.skip ?_
    refine Sv.seq ?_
    refine Sv.block ?_
    refine Sv.seq ?_
    refine Sv.region ?_
    refine un (a1 rfl ?_)
    obtain ⟨x_, hx1, h⟩ := bnd h
    refine un (a1 (v := (.c (.rop [.str x_.Name, .str x_.Value]))) (s_iaddr (e := e_TAttr) (xs := l_) rfl rfl hx1) ?_)
    refine un (a1 (v := (.agg [.str x_.Name, .str x_.Value])) rfl ?_)
    refine un (a2v (v := (.c (.ref 0 2 0 0))) (h' := upd _ 0 (some (.cells 2 [[.str [], .str []]]))) (n' := 1) rfl rfl (fun h => by cases h) ?_)
    refine un (a1 rfl ?_)
    refine un (a2n (h' := upd _ 0 (some (.cells 2 [[.str x_.Name, .str x_.Value]]))) (n' := 1) rfl rfl (fun h => by cases h) ?_)
    refine dnil ?_
    refine Sv.block ?_
    refine Sv.seq ?_
    refine Sv.region ?_
    refine un (a1 (v := (.c (.ref 0 2 0 0))) rfl ?_)
    refine un (a1 (v := (S x_.Name)) rfl ?_)
    obtain ⟨r_, hr1, h⟩ := bnd h
    refine un (ac_pure (dom_attrName_ok hr1) rfl rfl rfl ?_)
    refine un (a1 (v := (B (!r_))) rfl ?_)
    refine un (a1 rfl ?_)
    refine dnil ?_
    refine Sv.cond (b := (!r_)) rfl (fun hc3 => ?_) (fun hc3 => ?_)
    · replace h := ifT hc3 h
      refine Sv.seq ?_
      refine Sv.region ?_
      refine un (a1 rfl ?_)
      refine dnil ?_
      refine Sv.ret ?_
      replace h := Option.some.inj h
      subst h
      exact hr _ ⟨_, .refl _, _, rfl, ⟨upd (fun _ => none) 0 (some (I 3)), (fun _ => none), 0⟩, (I 3), weak_canon [] rfl List.nodup_nil (Nat.le_refl _) (fun b h => absurd h (Nat.not_lt_zero _)) (.cons rfl (avAs_free rfl) .nil) .nil, rfl, rfl, rfl, rfl⟩
    · replace h := ifF hc3 h
      refine Sv.seq ?_
      refine Sv.region ?_
      refine un (a1 (v := (.c (.ref 0 2 0 1))) rfl ?_)
      refine un (a1 (v := (S x_.Value)) rfl ?_)
      refine un (a1 (v := (I (x_.Value.length : Int))) rfl ?_)
      refine un (a1 (v := (B (decide (400 < (x_.Value.length : Int))))) rfl ?_)
      refine un (a1 rfl ?_)
      refine dnil ?_
      refine Sv.cond (b := decide (400 < (x_.Value.length : Int))) rfl (fun hc4 => ?_) (fun hc4 => ?_)
      · replace h := ifT hc4 h
        refine Sv.seq ?_
        refine Sv.region ?_
        refine un (a1 rfl ?_)
        refine dnil ?_
        refine Sv.ret ?_
        replace h := Option.some.inj h
        subst h
        exact hr _ ⟨_, .refl _, _, rfl, ⟨upd (fun _ => none) 0 (some (I 2)), (fun _ => none), 0⟩, (I 2), weak_canon [] rfl List.nodup_nil (Nat.le_refl _) (fun b h => absurd h (Nat.not_lt_zero _)) (.cons rfl (avAs_free rfl) .nil) .nil, rfl, rfl, rfl, rfl⟩
      · replace h := ifF hc4 h
        refine Sv.seq ?_
        refine Sv.drawn ?_
        refine un (a1 rfl ?_)
        refine un (a1 rfl ?_)
        obtain ⟨r_1, hx2, h⟩ := bnd h
        refine un (a1 (v := (.c (.ro false 2 (r_1.map e_TAttr)))) (s_slSl (e := e_TAttr) rfl rfl rfl hx2) ?_)
        refine un (a1 (v := (.c (.ref 0 2 0 0))) rfl ?_)
        refine un (a1 (v := (S x_.Name)) rfl ?_)
        obtain ⟨r_2, hr2, h⟩ := bnd h
        refine un (ac_pure (dom_find_ok hr2) rfl rfl rfl ?_)
        refine un (a1 (v := (B (decide (0 ≤ r_2)))) rfl ?_)
        refine un (a1 rfl ?_)
        refine dnil ?_
        refine Sv.cond (b := decide (0 ≤ r_2)) rfl (fun hc5 => ?_) (fun hc5 => ?_)
        · replace h := ifT hc5 h
          refine Sv.seq ?_
          refine Sv.region ?_
          refine un (a1 rfl ?_)
          refine dnil ?_
          refine Sv.ret ?_
          replace h := Option.some.inj h
          subst h
          exact hr _ ⟨_, .refl _, _, rfl, ⟨upd (fun _ => none) 0 (some (I 3)), (fun _ => none), 0⟩, (I 3), weak_canon [] rfl List.nodup_nil (Nat.le_refl _) (fun b h => absurd h (Nat.not_lt_zero _)) (.cons rfl (avAs_free rfl) .nil) .nil, rfl, rfl, rfl, rfl⟩
        · replace h := ifF hc5 h
          refine Sv.skip ?_
          refine Sv.region ?_
          refine un (a1 (v := (I (wi (v10 + 1)))) rfl ?_)
          refine un (a1 rfl ?_)
          refine dnil ?_
          exact hself (wi (v10 + 1)) h _ (weak_canon [] rfl (by decide) (by decide) (fun b h => absurd h (Nat.not_lt_zero _)) (.cons rfl (avAs_free rfl) (.cons rfl (avAs_free rfl) (.cons rfl (avAs_free rfl) (.cons rfl (avAs_free rfl) .nil)))) .nil)
  · replace h := ifF hc2 h
    refine Sv.exit ?_
    exact hK0 () h _ (weak_canon [] rfl (by decide) (by decide) (fun b h => absurd h (Nat.not_lt_zero _)) .nil .nil)
/-- clerestory/dom.attrs -/
noncomputable def dom_attrs (l_ : (List TAttr)) : Option Int :=
  if decide (12 < (l_.length : Int)) then
    some 2
  else
    lim fun kk => dom_attrs_l0 l_ (fun (_ : Unit) => 
        some 0) kk 0
theorem dom_attrs_ok {mL : Int} {l_ : (List TAttr)} {r : Int} (h : dom_attrs l_ = some r) : CPure Tryd.prog (GG mL) 121 [(.c (.ro false 2 (l_.map e_TAttr)))] (I r) := by
  refine acalls_of_sv hmix c121 (R := dom_attrs_post r) ?_
  unfold dom_attrs at h
  refine Sv.seq ?_
  refine Sv.region ?_
  refine un (a1 rfl ?_)
  refine dnil ?_
  refine Sv.seq ?_
  refine Sv.seq ?_
  refine Sv.region ?_
  refine un (a1 rfl ?_)
  refine un (a1 (v := (I (l_.length : Int))) (s_len (e := e_TAttr) (xs := l_) rfl) ?_)
  refine un (a1 (v := (B (decide (12 < (l_.length : Int))))) rfl ?_)
  refine dnil ?_
  refine Sv.cond (b := decide (12 < (l_.length : Int))) rfl (fun hc1 => ?_) (fun hc1 => ?_)
  · replace h := ifT hc1 h
    refine Sv.seq ?_
    refine Sv.region ?_
    refine un (a1 rfl ?_)
    refine dnil ?_
    refine Sv.ret ?_
    replace h := Option.some.inj h
    subst h
    exact ⟨_, .refl _, _, rfl, ⟨upd (fun _ => none) 0 (some (I 2)), (fun _ => none), 0⟩, (I 2), weak_canon [] rfl List.nodup_nil (Nat.le_refl _) (fun b h => absurd h (Nat.not_lt_zero _)) (.cons rfl (avAs_free rfl) .nil) .nil, rfl, rfl, rfl, rfl⟩
  · replace h := ifF hc1 h
    refine Sv.skip ?_
    refine Sv.seq ?_
    refine Sv.seq ?_
    refine Sv.region ?_
    refine un (a1 rfl ?_)
    refine un (a1 (v := (I (l_.length : Int))) (s_len (e := e_TAttr) (xs := l_) rfl) ?_)
    refine un (a1 rfl ?_)
    refine dnil ?_
    refine Sv.block ?_
    obtain ⟨kk, h⟩ := lim_some h
    refine Sv.weak (weak_canon [] rfl (by decide) (by decide) (fun b h => absurd h (Nat.not_lt_zero _)) (.cons rfl (avAs_free rfl) (.cons rfl (avAs_free rfl) (.cons rfl (avAs_free rfl) (.cons rfl (avAs_free rfl) .nil)))) .nil) (dom_attrs_l0_ok h ?_ (fun s hs => hs))
    · intro _ h _ hw1
      refine Sv.weak hw1 ?_
      refine Sv.seq ?_
      refine Sv.region ?_
      refine un (a1 rfl ?_)
      refine dnil ?_
      refine Sv.ret ?_
      replace h := Option.some.inj h
      subst h
      exact ⟨_, .refl _, _, rfl, ⟨upd (fun _ => none) 0 (some (I 0)), (fun _ => none), 0⟩, (I 0), weak_canon [] rfl List.nodup_nil (Nat.le_refl _) (fun b h => absurd h (Nat.not_lt_zero _)) (.cons rfl (avAs_free rfl) .nil) .nil, rfl, rfl, rfl, rfl⟩
def a79_c0 : ACode := (.cond (.tmp 18) (.seq (.region [⟨(some 2), (.mov (.const (.c (.val (.int .i64 3))))), none⟩])
 .ret) .skip)
def a79_c1 : ACode := (.seq (.seq (.region [⟨(some 28), (.faddr 2 (.tmp 1)), none⟩, ⟨(some 29), (.load false 1 (.tmp 28)), none⟩, ⟨(some 30), (.call 121 [(.tmp 29)]), none⟩, ⟨(some 3), (.mov (.tmp 30)), none⟩])
 (.seq (.region [⟨(some 31), (.mov (.tmp 3)), none⟩, ⟨(some 32), (.bin .neq (.tmp 31) (.const (.c (.val (.int .i64 0))))), none⟩])
 (.cond (.tmp 32) (.seq (.region [⟨(some 33), (.mov (.tmp 3)), none⟩, ⟨(some 2), (.mov (.tmp 33)), none⟩])
 .ret) .skip)))
 (.seq (.seq (.region [⟨(some 34), (.faddr 3 (.tmp 1)), none⟩, ⟨(some 35), (.load false 1 (.tmp 34)), none⟩, ⟨(some 36), (.lenS (.tmp 35)), none⟩, ⟨(some 37), (.bin .gtr (.tmp 36) (.const (.c (.val (.int .i64 400))))), none⟩, ⟨(some 38), (.mov (.tmp 37)), none⟩, ⟨(some 39), (.faddr 1 (.tmp 1)), (some (38, false))⟩, ⟨(some 40), (.load false 1 (.tmp 39)), (some (38, false))⟩, ⟨(some 41), (.lenS (.tmp 40)), (some (38, false))⟩, ⟨(some 42), (.bin .gtr (.tmp 41) (.const (.c (.val (.int .i64 400))))), (some (38, false))⟩, ⟨(some 43), (.pick (.tmp 38) (.const (.c (.val (.bool true)))) (.tmp 42)), none⟩])
 (.cond (.tmp 43) (.seq (.region [⟨(some 2), (.mov (.const (.c (.val (.int .i64 2))))), none⟩])
 .ret) .skip))
 (.seq (.region [⟨(some 2), (.mov (.const (.c (.val (.int .i64 0))))), none⟩])
 .ret)))
def a79 : AFunc := ⟨1, [(.tmp 2)], (.seq (.region [⟨(some 1), (.box (.tmp 0)), none⟩, ⟨(some 2), (.mov (.const (.c (.val (.int .i64 0))))), none⟩])
 (.seq (.block 0 (.seq (.region [⟨(some 5), (.faddr 0 (.tmp 1)), none⟩, ⟨(some 6), (.load false 1 (.tmp 5)), none⟩, ⟨(some 7), (.bin .lss (.tmp 6) (.const (.c (.val (.int .i64 1))))), none⟩, ⟨(some 8), (.mov (.tmp 7)), none⟩, ⟨(some 9), (.faddr 0 (.tmp 1)), (some (8, false))⟩, ⟨(some 10), (.load false 1 (.tmp 9)), (some (8, false))⟩, ⟨(some 11), (.bin .gtr (.tmp 10) (.const (.c (.val (.int .i64 5))))), (some (8, false))⟩, ⟨(some 12), (.pick (.tmp 8) (.const (.c (.val (.bool true)))) (.tmp 11)), none⟩, ⟨(some 13), (.mov (.tmp 12)), none⟩, ⟨(some 14), (.load true 6 (.tmp 1)), (some (13, false))⟩, ⟨(some 15), (.call 119 [(.tmp 14)]), (some (13, false))⟩, ⟨(some 16), (.un .not (.tmp 15)), (some (13, false))⟩, ⟨(some 17), (.pick (.tmp 13) (.const (.c (.val (.bool true)))) (.tmp 16)), none⟩, ⟨(some 4), (.mov (.tmp 17)), none⟩])
 (.cond (.tmp 4) (.seq (.region [⟨(some 2), (.mov (.const (.c (.val (.int .i64 7))))), none⟩])
 .ret) (.seq (.region [⟨(some 19), (.faddr 0 (.tmp 1)), none⟩, ⟨(some 20), (.load false 1 (.tmp 19)), none⟩, ⟨(some 21), (.bin .eql (.tmp 20) (.const (.c (.val (.int .i64 2))))), none⟩, ⟨(some 22), (.mov (.tmp 21)), none⟩, ⟨(some 23), (.faddr 1 (.tmp 1)), (some (22, true))⟩, ⟨(some 24), (.load false 1 (.tmp 23)), (some (22, true))⟩, ⟨(some 25), (.call 120 [(.tmp 24)]), (some (22, true))⟩, ⟨(some 26), (.un .not (.tmp 25)), (some (22, true))⟩, ⟨(some 27), (.pick (.tmp 22) (.tmp 26) (.const (.c (.val (.bool false))))), none⟩, ⟨(some 18), (.mov (.tmp 27)), none⟩])
 a79_c0))))
 a79_c1))⟩
set_option maxRecDepth 100000 in
theorem c79 : compFunc Tryd.prog 79 = some a79 := by kernel_rfl
def dom_one_post (r : Int) : AV → Heap → Nat → Prop := fun v h' n' => v = (I r) ∧ (h' = (fun _ => none)) ∧ n' = 0
abbrev dom_one_q0 (mL : Int) (o : Int) : AExit → St → Prop := AThen (Sv Tryd.prog (GG mL) 0 a79_c1 (Ends a79.results 0 (dom_one_post o))) (Ends a79.results 0 (dom_one_post o))
abbrev dom_one_q1 (mL : Int) (o : Int) : AExit → St → Prop := ABlock 0 (dom_one_q0 mL o)
noncomputable def dom_one_j1 (x_ : TNode) (v18 : Bool) : Option Int :=
  if v18 then
    some 3
  else
    (dom_attrs x_.Attrs).bind fun r_ =>
    if (!decide (r_ = 0)) then
      some r_
    else
      if ((decide (400 < (x_.Text.length : Int))) || (decide (400 < (x_.Name.length : Int)))) then
        some 2
      else
        some 0
theorem dom_one_j1_ok {mL : Int} {x_ : TNode} {v18 : Bool} {o : Int} (h : dom_one_j1 x_ v18 = some o) :
    Sv Tryd.prog (GG mL) 0 a79_c0 (dom_one_q1 mL o) ⟨(upd (upd (fun _ => none) 1 (some (.c (.ref 0 6 0 0)))) 18 (some (B v18))), (upd (fun _ => none) 0 (some (.cells 6 [[cI x_.Kind, .str x_.Name, .ro false 2 (x_.Attrs.map e_TAttr), .str x_.Text, cI x_.Parent, .ro false 1 (x_.Kids.map eI)]]))), 1⟩ := by
  unfold dom_one_j1 at h
  refine Sv.cond (b := v18) rfl (fun hc4 => ?_) (fun hc4 => ?_)
  · replace h := ifT hc4 h
    refine Sv.seq ?_
    refine Sv.region ?_
    refine un (a1 rfl ?_)
    refine dnil ?_
    refine Sv.ret ?_
    replace h := Option.some.inj h
    subst h
    exact ⟨_, .refl _, _, rfl, ⟨upd (fun _ => none) 0 (some (I 3)), (fun _ => none), 0⟩, (I 3), weak_canon [] rfl List.nodup_nil (Nat.le_refl _) (fun b h => absurd h (Nat.not_lt_zero _)) (.cons rfl (avAs_free rfl) .nil) .nil, rfl, rfl, rfl, rfl⟩
  · replace h := ifF hc4 h
    refine Sv.skip ?_
    refine Sv.seq ?_
    refine Sv.seq ?_
    refine Sv.region ?_
    refine un (a1 (v := (.c (.ref 0 6 0 2))) rfl ?_)
    refine un (a1 (v := (.c (.ro false 2 (x_.Attrs.map e_TAttr)))) rfl ?_)
    obtain ⟨r_, hr1, h⟩ := bnd h
    refine un (ac_pure (dom_attrs_ok hr1) rfl rfl rfl ?_)
    refine un (a1 rfl ?_)
    refine dnil ?_
    refine Sv.seq ?_
    refine Sv.region ?_
    refine un (a1 rfl ?_)
    refine un (a1 (v := (B (!decide (r_ = 0)))) rfl ?_)
    refine dnil ?_
    refine Sv.cond (b := (!decide (r_ = 0))) rfl (fun hc5 => ?_) (fun hc5 => ?_)
    · replace h := ifT hc5 h
      refine Sv.seq ?_
      refine Sv.region ?_
      refine un (a1 rfl ?_)
      refine un (a1 rfl ?_)
      refine dnil ?_
      refine Sv.ret ?_
      replace h := Option.some.inj h
      subst h
      exact ⟨_, .refl _, _, rfl, ⟨upd (fun _ => none) 0 (some (I r_)), (fun _ => none), 0⟩, (I r_), weak_canon [] rfl List.nodup_nil (Nat.le_refl _) (fun b h => absurd h (Nat.not_lt_zero _)) (.cons rfl (avAs_free rfl) .nil) .nil, rfl, rfl, rfl, rfl⟩
    · replace h := ifF hc5 h
      refine Sv.skip ?_
      refine Sv.seq ?_
      refine Sv.seq ?_
      refine Sv.region ?_
      refine un (a1 (v := (.c (.ref 0 6 0 3))) rfl ?_)
      refine un (a1 (v := (S x_.Text)) rfl ?_)
      refine un (a1 (v := (I (x_.Text.length : Int))) rfl ?_)
      refine un (a1 (v := (B (decide (400 < (x_.Text.length : Int))))) rfl ?_)
      refine un (a1 rfl ?_)
      refine gjoin 5 (d := 43) (v := (B ((decide (400 < (x_.Text.length : Int))) || (decide (400 < (x_.Name.length : Int)))))) (fun X hX => ?_) ?_
      · refine split2 (fun hc6 => ?_) (fun hc6 => ?_)
        · refine gs rfl rfl ?_
          refine gs rfl rfl ?_
          refine gs rfl rfl ?_
          refine gs rfl rfl ?_
          refine un (a1 (v := (B true)) rfl ?_)
          refine dnil ?_
          exact hX _ (.putEq (by rw [hc6]; rfl) (.skip _ _ (.skip _ _ (.skip _ _ (.skip _ _ (.putEq (by rw [hc6]) (.refl _)) rfl) rfl) rfl) rfl))
        · refine gt rfl (a1 (v := (.c (.ref 0 6 0 1))) rfl ?_)
          refine gt rfl (a1 (v := (S x_.Name)) rfl ?_)
          refine gt rfl (a1 (v := (I (x_.Name.length : Int))) rfl ?_)
          refine gt rfl (a1 (v := (B (decide (400 < (x_.Name.length : Int))))) rfl ?_)
          refine un (a1 (v := (B (decide (400 < (x_.Name.length : Int))))) rfl ?_)
          refine dnil ?_
          exact hX _ (.putEq (by rw [hc6]; rfl) (.skip _ _ (.skip _ _ (.skip _ _ (.skip _ _ (.putEq (by rw [hc6]) (.refl _)) rfl) rfl) rfl) rfl))
      refine dnil ?_
      refine Sv.cond (b := ((decide (400 < (x_.Text.length : Int))) || (decide (400 < (x_.Name.length : Int))))) rfl (fun hc7 => ?_) (fun hc7 => ?_)
      · replace h := ifT hc7 h
        refine Sv.seq ?_
        refine Sv.region ?_
        refine un (a1 rfl ?_)
        refine dnil ?_
        refine Sv.ret ?_
        replace h := Option.some.inj h
        subst h
        exact ⟨_, .refl _, _, rfl, ⟨upd (fun _ => none) 0 (some (I 2)), (fun _ => none), 0⟩, (I 2), weak_canon [] rfl List.nodup_nil (Nat.le_refl _) (fun b h => absurd h (Nat.not_lt_zero _)) (.cons rfl (avAs_free rfl) .nil) .nil, rfl, rfl, rfl, rfl⟩
      · replace h := ifF hc7 h
        refine Sv.skip ?_
        refine Sv.seq ?_
        refine Sv.region ?_
        refine un (a1 rfl ?_)
        refine dnil ?_
        refine Sv.ret ?_
        replace h := Option.some.inj h
        subst h
        exact ⟨_, .refl _, _, rfl, ⟨upd (fun _ => none) 0 (some (I 0)), (fun _ => none), 0⟩, (I 0), weak_canon [] rfl List.nodup_nil (Nat.le_refl _) (fun b h => absurd h (Nat.not_lt_zero _)) (.cons rfl (avAs_free rfl) .nil) .nil, rfl, rfl, rfl, rfl⟩
/-- clerestory/dom.one -/
noncomputable def dom_one (x_ : TNode) : Option Int :=
  if (((decide (x_.Kind < 1)) || (decide (5 < x_.Kind))) || (!(dom_bare x_))) then
    some 7
  else
    if decide (x_.Kind = 2) then
      (dom_Name x_.Name).bind fun r_1 =>
      dom_one_j1 x_ (!r_1)
    else
      dom_one_j1 x_ false
theorem dom_one_ok {mL : Int} {x_ : TNode} {r : Int} (h : dom_one x_ = some r) : CPure Tryd.prog (GG mL) 79 [(.agg [cI x_.Kind, .str x_.Name, .ro false 2 (x_.Attrs.map e_TAttr), .str x_.Text, cI x_.Parent, .ro false 1 (x_.Kids.map eI)])] (I r) := by
  refine acalls_of_sv hmix c79 (R := dom_one_post r) ?_
  unfold dom_one at h
  refine Sv.seq ?_
  refine Sv.region ?_
  refine un (a2v (v := (.c (.ref 0 6 0 0))) (h' := upd _ 0 (some (.cells 6 [[cI x_.Kind, .str x_.Name, .ro false 2 (x_.Attrs.map e_TAttr), .str x_.Text, cI x_.Parent, .ro false 1 (x_.Kids.map eI)]]))) (n' := 1) rfl rfl (fun h => by cases h) ?_)
  refine un (a1 rfl ?_)
  refine dnil ?_
  refine Sv.seq ?_
  refine Sv.block ?_
  refine Sv.seq ?_
  refine Sv.region ?_
  refine un (a1 (v := (.c (.ref 0 6 0 0))) rfl ?_)
  refine un (a1 (v := (I x_.Kind)) rfl ?_)
  refine un (a1 (v := (B (decide (x_.Kind < 1)))) rfl ?_)
  refine un (a1 rfl ?_)
  refine gjoin 4 (d := 12) (v := (B ((decide (x_.Kind < 1)) || (decide (5 < x_.Kind))))) (fun X hX => ?_) ?_
  · refine split2 (fun hc1 => ?_) (fun hc1 => ?_)
    · refine gs rfl rfl ?_
      refine gs rfl rfl ?_
      refine gs rfl rfl ?_
      refine un (a1 (v := (B true)) rfl ?_)
      refine dnil ?_
      exact hX _ (.putEq (by rw [hc1]; rfl) (.skip _ _ (.skip _ _ (.skip _ _ (.putEq (by rw [hc1]) (.refl _)) rfl) rfl) rfl))
    · refine gt rfl (a1 (v := (.c (.ref 0 6 0 0))) rfl ?_)
      refine gt rfl (a1 (v := (I x_.Kind)) rfl ?_)
      refine gt rfl (a1 (v := (B (decide (5 < x_.Kind)))) rfl ?_)
      refine un (a1 (v := (B (decide (5 < x_.Kind)))) rfl ?_)
      refine dnil ?_
      exact hX _ (.putEq (by rw [hc1]; rfl) (.skip _ _ (.skip _ _ (.skip _ _ (.putEq (by rw [hc1]) (.refl _)) rfl) rfl) rfl))
  refine un (a1 rfl ?_)
  refine gjoin 4 (d := 17) (v := (B (((decide (x_.Kind < 1)) || (decide (5 < x_.Kind))) || (!(dom_bare x_))))) (fun X hX => ?_) ?_
  · refine split2 (fun hc2 => ?_) (fun hc2 => ?_)
    · refine gs rfl rfl ?_
      refine gs rfl rfl ?_
      refine gs rfl rfl ?_
      refine un (a1 (v := (B true)) rfl ?_)
      refine dnil ?_
      exact hX _ (.putEq (by rw [hc2]; rfl) (.skip _ _ (.skip _ _ (.skip _ _ (.putEq (by rw [hc2]) (.refl _)) rfl) rfl) rfl))
    · refine gt rfl (a1 (v := (.agg [cI x_.Kind, .str x_.Name, .ro false 2 (x_.Attrs.map e_TAttr), .str x_.Text, cI x_.Parent, .ro false 1 (x_.Kids.map eI)])) rfl ?_)
      refine gt rfl (ac_pure (dom_bare_ok (mL := mL) x_) rfl rfl rfl ?_)
      refine gt rfl (a1 (v := (B (!(dom_bare x_)))) rfl ?_)
      refine un (a1 (v := (B (!(dom_bare x_)))) rfl ?_)
      refine dnil ?_
      exact hX _ (.putEq (by rw [hc2]; rfl) (.skip _ _ (.skip _ _ (.skip _ _ (.putEq (by rw [hc2]) (.refl _)) rfl) rfl) rfl))
  refine un (a1 rfl ?_)
  refine dnil ?_
  refine Sv.cond (b := (((decide (x_.Kind < 1)) || (decide (5 < x_.Kind))) || (!(dom_bare x_)))) rfl (fun hc3 => ?_) (fun hc3 => ?_)
  · replace h := ifT hc3 h
    refine Sv.seq ?_
    refine Sv.region ?_
    refine un (a1 rfl ?_)
    refine dnil ?_
    refine Sv.ret ?_
    replace h := Option.some.inj h
    subst h
    exact ⟨_, .refl _, _, rfl, ⟨upd (fun _ => none) 0 (some (I 7)), (fun _ => none), 0⟩, (I 7), weak_canon [] rfl List.nodup_nil (Nat.le_refl _) (fun b h => absurd h (Nat.not_lt_zero _)) (.cons rfl (avAs_free rfl) .nil) .nil, rfl, rfl, rfl, rfl⟩
  · replace h := ifF hc3 h
    refine Sv.seq ?_
    refine Sv.region ?_
    refine un (a1 (v := (.c (.ref 0 6 0 0))) rfl ?_)
    refine un (a1 (v := (I x_.Kind)) rfl ?_)
    refine un (a1 (v := (B (decide (x_.Kind = 2)))) rfl ?_)
    refine un (a1 rfl ?_)
    refine split2 (fun hc8 => ?_) (fun hc8 => ?_)
    · replace h := ifT hc8 h
      refine gt rfl (a1 (v := (.c (.ref 0 6 0 1))) rfl ?_)
      refine gt rfl (a1 (v := (S x_.Name)) rfl ?_)
      obtain ⟨r_1, hr2, h⟩ := bnd h
      refine gt rfl (ac_pure (dom_Name_ok hr2) rfl rfl rfl ?_)
      refine gt rfl (a1 (v := (B (!r_1))) rfl ?_)
      refine un (a1 (v := (B (!r_1))) rfl ?_)
      refine un (a1 rfl ?_)
      refine dnil ?_
      exact Sv.weak (weak_canon [0] rfl (by decide) (by decide) (fun b h => absurd h (Nat.not_lt_zero _)) (.cons rfl (avAs_free rfl) (.cons rfl (.c (.ref rfl (by decide))) .nil)) (.box (by decide) rfl (blkAs_cells (.cons (.same rfl) (.cons (.same rfl) (.cons (.same rfl) (.cons (.same rfl) (.cons (.same rfl) (.cons (.same rfl) .nil))))))) .nil)) (dom_one_j1_ok h)
    · replace h := ifF hc8 h
      refine gs rfl rfl ?_
      refine gs rfl rfl ?_
      refine gs rfl rfl ?_
      refine gs rfl rfl ?_
      refine un (a1 (v := (B false)) rfl ?_)
      refine un (a1 rfl ?_)
      refine dnil ?_
      exact Sv.weak (weak_canon [0] rfl (by decide) (by decide) (fun b h => absurd h (Nat.not_lt_zero _)) (.cons rfl (avAs_free rfl) (.cons rfl (.c (.ref rfl (by decide))) .nil)) (.box (by decide) rfl (blkAs_cells (.cons (.same rfl) (.cons (.same rfl) (.cons (.same rfl) (.cons (.same rfl) (.cons (.same rfl) (.cons (.same rfl) .nil))))))) .nil)) (dom_one_j1_ok h)
def a80_c1 : ACode := (.cond (.tmp 54) (.seq (.region [⟨(some 2), (.mov (.const (.c (.val (.int .i64 7))))), none⟩])
 .ret) .skip)
def a80_c0 : ACode := (.cond (.tmp 29) (.seq (.region [⟨(some 2), (.mov (.const (.c (.val (.int .i64 3))))), none⟩])
 .ret) (.seq (.region [⟨(some 55), (.mov (.tmp 4)), none⟩, ⟨(some 56), (.bin .eql (.tmp 55) (.const (.c (.val (.int .i64 0))))), none⟩, ⟨(some 57), (.mov (.tmp 56)), none⟩, ⟨(some 58), (.faddr 0 (.tmp 1)), (some (57, true))⟩, ⟨(some 59), (.load false 1 (.tmp 58)), (some (57, true))⟩, ⟨(some 60), (.mov (.tmp 7)), (some (57, true))⟩, ⟨(some 61), (.iaddr 6 (.tmp 59) (.tmp 60)), (some (57, true))⟩, ⟨(some 62), (.faddr 0 (.tmp 61)), (some (57, true))⟩, ⟨(some 63), (.load false 1 (.tmp 62)), (some (57, true))⟩, ⟨(some 64), (.bin .eql (.tmp 63) (.const (.c (.val (.int .i64 3))))), (some (57, true))⟩, ⟨(some 65), (.pick (.tmp 57) (.tmp 64) (.const (.c (.val (.bool false))))), none⟩, ⟨(some 54), (.mov (.tmp 65)), none⟩])
 a80_c1))
def a80_c3 : ACode := (.region [⟨(some 66), (.mov (.tmp 3)), none⟩, ⟨(some 67), (.mov (.tmp 7)), none⟩, ⟨(some 68), (.iaddr 1 (.tmp 66) (.tmp 67)), none⟩, ⟨none, (.store 1 (.tmp 68) (.const (.c (.val (.bool true))))), none⟩])
def a80_c2 : ACode := (.region [⟨(some 69), (.bin .add (.tmp 25) (.const (.c (.val (.int .i64 1))))), none⟩, ⟨(some 25), (.mov (.tmp 69)), none⟩])
def a80_c4 : ACode := (.seq (.region [⟨(some 26), (.bin .lss (.tmp 25) (.tmp 24)), none⟩])
 (.seq (.cond (.tmp 26) .skip (.exit 2))
 (.seq (.block 3 (.seq (.region [⟨(some 27), (.iaddr 1 (.tmp 23) (.tmp 25)), none⟩, ⟨(some 28), (.load false 1 (.tmp 27)), none⟩, ⟨(some 7), (.mov (.tmp 28)), none⟩])
 (.seq (.block 4 (.seq (.region [⟨(some 30), (.mov (.tmp 7)), none⟩, ⟨(some 31), (.bin .lss (.tmp 30) (.const (.c (.val (.int .i64 0))))), none⟩, ⟨(some 32), (.mov (.tmp 31)), none⟩, ⟨(some 33), (.mov (.tmp 7)), (some (32, false))⟩, ⟨(some 34), (.mov (.tmp 3)), (some (32, false))⟩, ⟨(some 35), (.len (.tmp 34)), (some (32, false))⟩, ⟨(some 36), (.bin .geq (.tmp 33) (.tmp 35)), (some (32, false))⟩, ⟨(some 37), (.pick (.tmp 32) (.const (.c (.val (.bool true)))) (.tmp 36)), none⟩, ⟨(some 38), (.mov (.tmp 37)), none⟩, ⟨(some 39), (.faddr 0 (.tmp 1)), (some (38, false))⟩, ⟨(some 40), (.load false 1 (.tmp 39)), (some (38, false))⟩, ⟨(some 41), (.mov (.tmp 7)), (some (38, false))⟩, ⟨(some 42), (.iaddr 6 (.tmp 40) (.tmp 41)), (some (38, false))⟩, ⟨(some 43), (.faddr 4 (.tmp 42)), (some (38, false))⟩, ⟨(some 44), (.load false 1 (.tmp 43)), (some (38, false))⟩, ⟨(some 45), (.mov (.tmp 4)), (some (38, false))⟩, ⟨(some 46), (.bin .neq (.tmp 44) (.tmp 45)), (some (38, false))⟩, ⟨(some 47), (.pick (.tmp 38) (.const (.c (.val (.bool true)))) (.tmp 46)), none⟩, ⟨(some 48), (.mov (.tmp 47)), none⟩, ⟨(some 49), (.mov (.tmp 3)), (some (48, false))⟩, ⟨(some 50), (.mov (.tmp 7)), (some (48, false))⟩, ⟨(some 51), (.iaddr 1 (.tmp 49) (.tmp 50)), (some (48, false))⟩, ⟨(some 52), (.load false 1 (.tmp 51)), (some (48, false))⟩, ⟨(some 53), (.pick (.tmp 48) (.const (.c (.val (.bool true)))) (.tmp 52)), none⟩, ⟨(some 29), (.mov (.tmp 53)), none⟩])
 a80_c0))
 a80_c3)))
 a80_c2)))
def a80_c5 : ACode := (.seq (.region [⟨(some 18), (.bin .lss (.tmp 17) (.tmp 16)), none⟩])
 (.seq (.cond (.tmp 18) .skip (.exit 0))
 (.seq (.block 1 (.seq (.region [⟨(some 19), (.mov (.tmp 17)), none⟩, ⟨(some 20), (.iaddr 6 (.tmp 15) (.tmp 17)), none⟩, ⟨(some 21), (.load true 6 (.tmp 20)), none⟩, ⟨(some 5), (.box (.const (.agg [(.val (.int .i64 0)), (.str []), (.ro true 2 []), (.str []), (.val (.int .i64 0)), (.ro true 1 [])]))), none⟩, ⟨(some 4), (.mov (.tmp 19)), none⟩, ⟨none, (.store 6 (.tmp 5) (.tmp 21)), none⟩])
 (.seq (.region [⟨(some 22), (.faddr 5 (.tmp 5)), none⟩, ⟨(some 23), (.load false 1 (.tmp 22)), none⟩, ⟨(some 24), (.len (.tmp 23)), none⟩, ⟨(some 25), (.mov (.const (.c (.val (.int .i64 0))))), none⟩])
 (.block 2 (.loop a80_c4)))))
 (.region [⟨(some 70), (.bin .add (.tmp 17) (.const (.c (.val (.int .i64 1))))), none⟩, ⟨(some 17), (.mov (.tmp 70)), none⟩]))))
def a80_c6 : ACode := (.cond (.tmp 88) (.seq (.region [⟨(some 2), (.mov (.const (.c (.val (.int .i64 3))))), none⟩])
 .ret) .skip)
def a80_c7 : ACode := (.region [⟨(some 89), (.bin .add (.tmp 74) (.const (.c (.val (.int .i64 1))))), none⟩, ⟨(some 74), (.mov (.tmp 89)), none⟩])
def a80_c8 : ACode := (.seq (.region [⟨(some 75), (.bin .lss (.tmp 74) (.tmp 73)), none⟩])
 (.seq (.cond (.tmp 75) .skip (.exit 5))
 (.seq (.block 6 (.seq (.region [⟨(some 76), (.mov (.tmp 74)), none⟩, ⟨(some 77), (.iaddr 6 (.tmp 72) (.tmp 74)), none⟩, ⟨(some 78), (.load true 6 (.tmp 77)), none⟩, ⟨(some 9), (.box (.const (.agg [(.val (.int .i64 0)), (.str []), (.ro true 2 []), (.str []), (.val (.int .i64 0)), (.ro true 1 [])]))), none⟩, ⟨(some 8), (.mov (.tmp 76)), none⟩, ⟨none, (.store 6 (.tmp 9) (.tmp 78)), none⟩])
 (.seq (.region [⟨(some 79), (.faddr 4 (.tmp 9)), none⟩, ⟨(some 80), (.load false 1 (.tmp 79)), none⟩, ⟨(some 81), (.bin .neq (.tmp 80) (.const (.c (.val (.int .i64 (-1)))))), none⟩, ⟨(some 82), (.mov (.tmp 81)), none⟩, ⟨(some 83), (.mov (.tmp 3)), (some (82, true))⟩, ⟨(some 84), (.mov (.tmp 8)), (some (82, true))⟩, ⟨(some 85), (.iaddr 1 (.tmp 83) (.tmp 84)), (some (82, true))⟩, ⟨(some 86), (.load false 1 (.tmp 85)), (some (82, true))⟩, ⟨(some 87), (.un .not (.tmp 86)), (some (82, true))⟩, ⟨(some 88), (.pick (.tmp 82) (.tmp 87) (.const (.c (.val (.bool false))))), none⟩])
 a80_c6)))
 a80_c7)))
def a80 : AFunc := ⟨1, [(.tmp 2)], (.seq (.region [⟨(some 1), (.box (.tmp 0)), none⟩, ⟨(some 2), (.mov (.const (.c (.val (.int .i64 0))))), none⟩])
 (.seq (.region [⟨(some 10), (.faddr 0 (.tmp 1)), none⟩, ⟨(some 11), (.load false 1 (.tmp 10)), none⟩, ⟨(some 12), (.len (.tmp 11)), none⟩, ⟨(some 13), (.mksl 1 1 [(.val (.bool false))] (.tmp 12) (.tmp 12)), none⟩, ⟨(some 3), (.mov (.tmp 13)), none⟩])
 (.seq (.seq (.region [⟨(some 14), (.faddr 0 (.tmp 1)), none⟩, ⟨(some 15), (.load false 1 (.tmp 14)), none⟩, ⟨(some 16), (.len (.tmp 15)), none⟩, ⟨(some 17), (.mov (.const (.c (.val (.int .i64 0))))), none⟩])
 (.block 0 (.loop a80_c5)))
 (.seq (.seq (.region [⟨(some 71), (.faddr 0 (.tmp 1)), none⟩, ⟨(some 72), (.load false 1 (.tmp 71)), none⟩, ⟨(some 73), (.len (.tmp 72)), none⟩, ⟨(some 74), (.mov (.const (.c (.val (.int .i64 0))))), none⟩])
 (.block 5 (.loop a80_c8)))
 (.seq (.seq (.region [⟨(some 90), (.faddr 0 (.tmp 1)), none⟩, ⟨(some 91), (.load false 1 (.tmp 90)), none⟩, ⟨(some 92), (.iaddr 6 (.tmp 91) (.const (.c (.val (.int .i64 0))))), none⟩, ⟨(some 93), (.faddr 4 (.tmp 92)), none⟩, ⟨(some 94), (.load false 1 (.tmp 93)), none⟩, ⟨(some 95), (.bin .neq (.tmp 94) (.const (.c (.val (.int .i64 (-1)))))), none⟩])
 (.cond (.tmp 95) (.seq (.region [⟨(some 2), (.mov (.const (.c (.val (.int .i64 3))))), none⟩])
 .ret) .skip))
 (.seq (.region [⟨(some 2), (.mov (.const (.c (.val (.int .i64 0))))), none⟩])
 .ret))))))⟩
set_option maxRecDepth 100000 in
theorem c80 : compFunc Tryd.prog 80 = some a80 := by kernel_rfl
def dom_kids_post (r : Int) : AV → Heap → Nat → Prop := fun v h' n' => v = (I r) ∧ (h' = (fun _ => none)) ∧ n' = 0
abbrev dom_kids_q0 (mL : Int) (Q : AExit → St → Prop) : AExit → St → Prop := AThen (Sv Tryd.prog (GG mL) 0 a80_c2 Q) Q
abbrev dom_kids_q1 (mL : Int) (Q : AExit → St → Prop) : AExit → St → Prop := ABlock 3 (dom_kids_q0 mL Q)
abbrev dom_kids_q2 (mL : Int) (Q : AExit → St → Prop) : AExit → St → Prop := AThen (Sv Tryd.prog (GG mL) 0 a80_c3 (dom_kids_q1 mL Q)) (dom_kids_q1 mL Q)
abbrev dom_kids_q3 (mL : Int) (Q : AExit → St → Prop) : AExit → St → Prop := ABlock 4 (dom_kids_q2 mL Q)
noncomputable def dom_kids_j18 (x_1 : Int) (v25 : Int) (v17 : Int) (d_ : TDoc) (x_ : TNode) (self : (List Bool) → Int → Option Int) (K2_ : (List Bool) → Option Int) (seen5 : (List Bool)) (v54 : Bool) : Option Int :=
  if v54 then
    some 7
  else
    (at? seen5 x_1).bind fun x_2 =>
    self (seen5.set x_1.toNat true) (wi (v25 + 1))
theorem dom_kids_j18_ok {mL : Int} {Q : AExit → St → Prop} {x_1 : Int} {v25 : Int} {v17 : Int} {d_ : TDoc} {x_ : TNode} {self : (List Bool) → Int → Option Int} {K2_ : (List Bool) → Option Int} {seen5 : (List Bool)} {v54 : Bool} {zseen5 : Bool} (hzseen5 : zseen5 = true → seen5 = []) {o : Int} (h : dom_kids_j18 x_1 v25 v17 d_ x_ self K2_ seen5 v54 = some o)
    (hself : ∀ (seen2 : (List Bool)) (v25 : Int) (zseen2 : Bool) (_ : zseen2 = true → seen2 = []), self seen2 v25 = some o → ∀ s, Weak 0 s ⟨(upd (upd (upd (upd (upd (upd (upd (upd (upd (fun _ => none) 1 (some (.c (.ref 0 2 0 0)))) 3 (some (lstV zseen2 1 1 seen2.length))) 4 (some (I v17))) 15 (some (.c (.ro false 6 (d_.Nodes.map e_TNode))))) 16 (some (I (d_.Nodes.length : Int)))) 17 (some (I v17))) 23 (some (.c (.ro false 1 (x_.Kids.map eI))))) 24 (some (I (x_.Kids.length : Int)))) 25 (some (I v25))), (upd (upd (fun _ => none) 0 (some (.cells 2 [[.ro false 6 (d_.Nodes.map e_TNode), cB d_.Quirks]]))) 1 (lstB zseen2 1 (seen2.map eB))), 2⟩ → (Q) .normal s)
    (hK2 : ∀ (seen3 : (List Bool)) (zseen3 : Bool) (_ : zseen3 = true → seen3 = []), K2_ seen3 = some o → ∀ s, Weak 0 s ⟨(upd (upd (upd (upd (upd (fun _ => none) 1 (some (.c (.ref 0 2 0 0)))) 3 (some (lstV zseen3 1 1 seen3.length))) 15 (some (.c (.ro false 6 (d_.Nodes.map e_TNode))))) 16 (some (I (d_.Nodes.length : Int)))) 17 (some (I v17))), (upd (upd (fun _ => none) 0 (some (.cells 2 [[.ro false 6 (d_.Nodes.map e_TNode), cB d_.Quirks]]))) 1 (lstB zseen3 1 (seen3.map eB))), 2⟩ → Q (.exit 2) s)
    (hr : ∀ s, Ends a80.results 0 (dom_kids_post o) .ret s → Q .ret s) :
    Sv Tryd.prog (GG mL) 0 a80_c1 (dom_kids_q3 mL Q) ⟨(upd (upd (upd (upd (upd (upd (upd (upd (upd (upd (upd (fun _ => none) 1 (some (.c (.ref 0 2 0 0)))) 3 (some (lstV zseen5 1 1 seen5.length))) 4 (some (I v17))) 7 (some (I x_1))) 15 (some (.c (.ro false 6 (d_.Nodes.map e_TNode))))) 16 (some (I (d_.Nodes.length : Int)))) 17 (some (I v17))) 23 (some (.c (.ro false 1 (x_.Kids.map eI))))) 24 (some (I (x_.Kids.length : Int)))) 25 (some (I v25))) 54 (some (B v54))), (upd (upd (fun _ => none) 0 (some (.cells 2 [[.ro false 6 (d_.Nodes.map e_TNode), cB d_.Quirks]]))) 1 (lstB zseen5 1 (seen5.map eB))), 2⟩ := by
  unfold dom_kids_j18 at h
  refine Sv.cond (b := v54) rfl (fun hc4 => ?_) (fun hc4 => ?_)
  · replace h := ifT hc4 h
    refine Sv.seq ?_
    refine Sv.region ?_
    refine un (a1 rfl ?_)
    refine dnil ?_
    refine Sv.ret ?_
    replace h := Option.some.inj h
    subst h
    exact hr _ ⟨_, .refl _, _, rfl, ⟨upd (fun _ => none) 0 (some (I 7)), (fun _ => none), 0⟩, (I 7), weak_canon [] rfl List.nodup_nil (Nat.le_refl _) (fun b h => absurd h (Nat.not_lt_zero _)) (.cons rfl (avAs_free rfl) .nil) .nil, rfl, rfl, rfl, rfl⟩
  · replace h := ifF hc4 h
    refine Sv.skip ?_
    refine Sv.region ?_
    refine un (a1 rfl ?_)
    refine un (a1 rfl ?_)
    obtain ⟨x_2, hx4, h⟩ := bnd h
    refine un (a1 (v := (.c (.ref 1 1 x_1.toNat 0))) (s_iaddrL rfl rfl hzseen5 hx4) ?_)
    refine un (a2n (h' := upd _ 1 (lstB zseen5 1 ((seen5.set x_1.toNat true).map eB))) (n' := 2) rfl (s_storeL (e := eB) (q' := true) rfl rfl hzseen5 hx4 rfl rfl rfl (Nat.le_of_ble_eq_true rfl) rfl) (fun h => by cases h) ?_)
    try rw [len_set seen5 x_1.toNat true]
    refine dnil ?_
    refine Sv.region ?_
    refine un (a1 (v := (I (wi (v25 + 1)))) rfl ?_)
    refine un (a1 rfl ?_)
    refine dnil ?_
    exact hself (seen5.set x_1.toNat true) (wi (v25 + 1)) zseen5 (hz_len hzseen5 (len_set seen5 x_1.toNat true)) h _ (weak_canon [0, 1] rfl (by decide) (by decide) (fun b h => absurd h (Nat.not_lt_zero _)) (.cons rfl (avAs_free rfl) (.cons rfl (avAs_free rfl) (.cons rfl (avAs_free rfl) (.cons rfl (avAs_free rfl) (.cons rfl (avAs_free rfl) (.cons rfl (avAs_free rfl) (.cons rfl (avAs_free rfl) (.cons rfl (.c (lstC_ren rfl (by decide))) (.cons rfl (.c (.ref rfl (by decide))) .nil))))))))) (.row (by decide) rfl (fr_map fun _ => rfl) (.box (by decide) rfl (blkAs_cells (.cons (.same rfl) (.cons (.same rfl) .nil))) .nil)))
noncomputable def dom_kids_j17 (v17 : Int) (d_ : TDoc) (x_1 : Int) (v25 : Int) (x_ : TNode) (self : (List Bool) → Int → Option Int) (K2_ : (List Bool) → Option Int) (seen4 : (List Bool)) (v29 : Bool) : Option Int :=
  if v29 then
    some 3
  else
    if decide (v17 = 0) then
      (at? d_.Nodes x_1).bind fun x_3 =>
      dom_kids_j18 x_1 v25 v17 d_ x_ self K2_ seen4 (decide (x_3.Kind = 3))
    else
      dom_kids_j18 x_1 v25 v17 d_ x_ self K2_ seen4 false
theorem dom_kids_j17_ok {mL : Int} {Q : AExit → St → Prop} {v17 : Int} {d_ : TDoc} {x_1 : Int} {v25 : Int} {x_ : TNode} {self : (List Bool) → Int → Option Int} {K2_ : (List Bool) → Option Int} {seen4 : (List Bool)} {v29 : Bool} {zseen4 : Bool} (hzseen4 : zseen4 = true → seen4 = []) {o : Int} (h : dom_kids_j17 v17 d_ x_1 v25 x_ self K2_ seen4 v29 = some o)
    (hself : ∀ (seen2 : (List Bool)) (v25 : Int) (zseen2 : Bool) (_ : zseen2 = true → seen2 = []), self seen2 v25 = some o → ∀ s, Weak 0 s ⟨(upd (upd (upd (upd (upd (upd (upd (upd (upd (fun _ => none) 1 (some (.c (.ref 0 2 0 0)))) 3 (some (lstV zseen2 1 1 seen2.length))) 4 (some (I v17))) 15 (some (.c (.ro false 6 (d_.Nodes.map e_TNode))))) 16 (some (I (d_.Nodes.length : Int)))) 17 (some (I v17))) 23 (some (.c (.ro false 1 (x_.Kids.map eI))))) 24 (some (I (x_.Kids.length : Int)))) 25 (some (I v25))), (upd (upd (fun _ => none) 0 (some (.cells 2 [[.ro false 6 (d_.Nodes.map e_TNode), cB d_.Quirks]]))) 1 (lstB zseen2 1 (seen2.map eB))), 2⟩ → (Q) .normal s)
    (hK2 : ∀ (seen3 : (List Bool)) (zseen3 : Bool) (_ : zseen3 = true → seen3 = []), K2_ seen3 = some o → ∀ s, Weak 0 s ⟨(upd (upd (upd (upd (upd (fun _ => none) 1 (some (.c (.ref 0 2 0 0)))) 3 (some (lstV zseen3 1 1 seen3.length))) 15 (some (.c (.ro false 6 (d_.Nodes.map e_TNode))))) 16 (some (I (d_.Nodes.length : Int)))) 17 (some (I v17))), (upd (upd (fun _ => none) 0 (some (.cells 2 [[.ro false 6 (d_.Nodes.map e_TNode), cB d_.Quirks]]))) 1 (lstB zseen3 1 (seen3.map eB))), 2⟩ → Q (.exit 2) s)
    (hr : ∀ s, Ends a80.results 0 (dom_kids_post o) .ret s → Q .ret s) :
    Sv Tryd.prog (GG mL) 0 a80_c0 (dom_kids_q3 mL Q) ⟨(upd (upd (upd (upd (upd (upd (upd (upd (upd (upd (upd (fun _ => none) 1 (some (.c (.ref 0 2 0 0)))) 3 (some (lstV zseen4 1 1 seen4.length))) 4 (some (I v17))) 7 (some (I x_1))) 15 (some (.c (.ro false 6 (d_.Nodes.map e_TNode))))) 16 (some (I (d_.Nodes.length : Int)))) 17 (some (I v17))) 23 (some (.c (.ro false 1 (x_.Kids.map eI))))) 24 (some (I (x_.Kids.length : Int)))) 25 (some (I v25))) 29 (some (B v29))), (upd (upd (fun _ => none) 0 (some (.cells 2 [[.ro false 6 (d_.Nodes.map e_TNode), cB d_.Quirks]]))) 1 (lstB zseen4 1 (seen4.map eB))), 2⟩ := by
  unfold dom_kids_j17 at h
  refine Sv.cond (b := v29) rfl (fun hc3 => ?_) (fun hc3 => ?_)
  · replace h := ifT hc3 h
    refine Sv.seq ?_
    refine Sv.region ?_
    refine un (a1 rfl ?_)
    refine dnil ?_
    refine Sv.ret ?_
    replace h := Option.some.inj h
    subst h
    exact hr _ ⟨_, .refl _, _, rfl, ⟨upd (fun _ => none) 0 (some (I 3)), (fun _ => none), 0⟩, (I 3), weak_canon [] rfl List.nodup_nil (Nat.le_refl _) (fun b h => absurd h (Nat.not_lt_zero _)) (.cons rfl (avAs_free rfl) .nil) .nil, rfl, rfl, rfl, rfl⟩
  · replace h := ifF hc3 h
    refine Sv.seq ?_
    refine Sv.region ?_
    refine un (a1 rfl ?_)
    refine un (a1 (v := (B (decide (v17 = 0)))) rfl ?_)
    refine un (a1 rfl ?_)
    refine split2 (fun hc5 => ?_) (fun hc5 => ?_)
    · replace h := ifT hc5 h
      refine gt rfl (a1 (v := (.c (.ref 0 2 0 0))) rfl ?_)
      refine gt rfl (a1 (v := (.c (.ro false 6 (d_.Nodes.map e_TNode)))) rfl ?_)
      refine gt rfl (a1 rfl ?_)
      obtain ⟨x_3, hx5, h⟩ := bnd h
      refine gt rfl (a1 (v := (.c (.rop [cI x_3.Kind, .str x_3.Name, .ro false 2 (x_3.Attrs.map e_TAttr), .str x_3.Text, cI x_3.Parent, .ro false 1 (x_3.Kids.map eI)]))) (s_iaddr (e := e_TNode) (xs := d_.Nodes) rfl rfl hx5) ?_)
      refine gt rfl (a1 (v := (.c (.rop [cI x_3.Kind, .str x_3.Name, .ro false 2 (x_3.Attrs.map e_TAttr), .str x_3.Text, cI x_3.Parent, .ro false 1 (x_3.Kids.map eI)]))) rfl ?_)
      refine gt rfl (a1 (v := (I x_3.Kind)) rfl ?_)
      refine gt rfl (a1 (v := (B (decide (x_3.Kind = 3)))) rfl ?_)
      refine un (a1 (v := (B (decide (x_3.Kind = 3)))) rfl ?_)
      refine un (a1 rfl ?_)
      refine dnil ?_
      exact Sv.weak (weak_canon [0, 1] rfl (by decide) (by decide) (fun b h => absurd h (Nat.not_lt_zero _)) (.cons rfl (avAs_free rfl) (.cons rfl (avAs_free rfl) (.cons rfl (avAs_free rfl) (.cons rfl (avAs_free rfl) (.cons rfl (avAs_free rfl) (.cons rfl (avAs_free rfl) (.cons rfl (avAs_free rfl) (.cons rfl (avAs_free rfl) (.cons rfl (avAs_free rfl) (.cons rfl (.c (lstC_ren rfl (by decide))) (.cons rfl (.c (.ref rfl (by decide))) .nil))))))))))) (.row (by decide) rfl (fr_map fun _ => rfl) (.box (by decide) rfl (blkAs_cells (.cons (.same rfl) (.cons (.same rfl) .nil))) .nil))) (dom_kids_j18_ok hzseen4 h hself hK2 hr)
    · replace h := ifF hc5 h
      refine gs rfl rfl ?_
      refine gs rfl rfl ?_
      refine gs rfl rfl ?_
      refine gs rfl rfl ?_
      refine gs rfl rfl ?_
      refine gs rfl rfl ?_
      refine gs rfl rfl ?_
      refine un (a1 (v := (B false)) rfl ?_)
      refine un (a1 rfl ?_)
      refine dnil ?_
      exact Sv.weak (weak_canon [0, 1] rfl (by decide) (by decide) (fun b h => absurd h (Nat.not_lt_zero _)) (.cons rfl (avAs_free rfl) (.cons rfl (avAs_free rfl) (.cons rfl (avAs_free rfl) (.cons rfl (avAs_free rfl) (.cons rfl (avAs_free rfl) (.cons rfl (avAs_free rfl) (.cons rfl (avAs_free rfl) (.cons rfl (avAs_free rfl) (.cons rfl (avAs_free rfl) (.cons rfl (.c (lstC_ren rfl (by decide))) (.cons rfl (.c (.ref rfl (by decide))) .nil))))))))))) (.row (by decide) rfl (fr_map fun _ => rfl) (.box (by decide) rfl (blkAs_cells (.cons (.same rfl) (.cons (.same rfl) .nil))) .nil))) (dom_kids_j18_ok hzseen4 h hself hK2 hr)
noncomputable def dom_kids_l3 (x_ : TNode) (v17 : Int) (d_ : TDoc) (K2_ : (List Bool) → Option Int) : Nat → (List Bool) → Int → Option Int
  | 0, _, _ => none
  | k + 1, seen2, v25 =>
    if decide (v25 < (x_.Kids.length : Int)) then
      (at? x_.Kids v25).bind fun x_1 =>
      if ((decide (x_1 < 0)) || (decide ((seen2.length : Int) ≤ x_1))) then
        dom_kids_j17 v17 d_ x_1 v25 x_ (dom_kids_l3 x_ v17 d_ K2_ k) K2_ seen2 true
      else
        (at? d_.Nodes x_1).bind fun x_4 =>
        if (!decide (x_4.Parent = v17)) then
          dom_kids_j17 v17 d_ x_1 v25 x_ (dom_kids_l3 x_ v17 d_ K2_ k) K2_ seen2 true
        else
          (at? seen2 x_1).bind fun x_5 =>
          dom_kids_j17 v17 d_ x_1 v25 x_ (dom_kids_l3 x_ v17 d_ K2_ k) K2_ seen2 x_5
    else
      K2_ seen2
theorem dom_kids_l3_ok {mL : Int} {Q : AExit → St → Prop} {x_ : TNode} {v17 : Int} {d_ : TDoc} {K2_ : (List Bool) → Option Int} {k : Nat} {seen2 : (List Bool)} {v25 : Int} {zseen2 : Bool} (hzseen2 : zseen2 = true → seen2 = []) {o : Int} (h : dom_kids_l3 x_ v17 d_ K2_ k seen2 v25 = some o)
    (hK2 : ∀ (seen3 : (List Bool)) (zseen3 : Bool) (_ : zseen3 = true → seen3 = []), K2_ seen3 = some o → ∀ s, Weak 0 s ⟨(upd (upd (upd (upd (upd (fun _ => none) 1 (some (.c (.ref 0 2 0 0)))) 3 (some (lstV zseen3 1 1 seen3.length))) 15 (some (.c (.ro false 6 (d_.Nodes.map e_TNode))))) 16 (some (I (d_.Nodes.length : Int)))) 17 (some (I v17))), (upd (upd (fun _ => none) 0 (some (.cells 2 [[.ro false 6 (d_.Nodes.map e_TNode), cB d_.Quirks]]))) 1 (lstB zseen3 1 (seen3.map eB))), 2⟩ → Q (.exit 2) s)
    (hr : ∀ s, Ends a80.results 0 (dom_kids_post o) .ret s → Q .ret s) :
    Sv Tryd.prog (GG mL) 0 (.loop a80_c4) Q ⟨(upd (upd (upd (upd (upd (upd (upd (upd (upd (fun _ => none) 1 (some (.c (.ref 0 2 0 0)))) 3 (some (lstV zseen2 1 1 seen2.length))) 4 (some (I v17))) 15 (some (.c (.ro false 6 (d_.Nodes.map e_TNode))))) 16 (some (I (d_.Nodes.length : Int)))) 17 (some (I v17))) 23 (some (.c (.ro false 1 (x_.Kids.map eI))))) 24 (some (I (x_.Kids.length : Int)))) 25 (some (I v25))), (upd (upd (fun _ => none) 0 (some (.cells 2 [[.ro false 6 (d_.Nodes.map e_TNode), cB d_.Quirks]]))) 1 (lstB zseen2 1 (seen2.map eB))), 2⟩ := by
  refine Sv.loop (I := fun k s => ∃ (seen2 : (List Bool)), ∃ (v25 : Int), ∃ (zseen2 : Bool), (zseen2 = true → seen2 = []) ∧ dom_kids_l3 x_ v17 d_ K2_ k seen2 v25 = some o ∧ s = ⟨(upd (upd (upd (upd (upd (upd (upd (upd (upd (fun _ => none) 1 (some (.c (.ref 0 2 0 0)))) 3 (some (lstV zseen2 1 1 seen2.length))) 4 (some (I v17))) 15 (some (.c (.ro false 6 (d_.Nodes.map e_TNode))))) 16 (some (I (d_.Nodes.length : Int)))) 17 (some (I v17))) 23 (some (.c (.ro false 1 (x_.Kids.map eI))))) 24 (some (I (x_.Kids.length : Int)))) 25 (some (I v25))), (upd (upd (fun _ => none) 0 (some (.cells 2 [[.ro false 6 (d_.Nodes.map e_TNode), cB d_.Quirks]]))) 1 (lstB zseen2 1 (seen2.map eB))), 2⟩) (fun k s hI => ?_) ⟨seen2, v25, zseen2, hzseen2, h, rfl⟩
  clear h
  clear hzseen2 zseen2 v25 seen2
  obtain ⟨seen2, v25, zseen2, hzseen2, h, rfl⟩ := hI
  cases k with
  | zero => cases h
  | succ k =>
  rw [dom_kids_l3] at h
  have hself : ∀ (seen2 : (List Bool)) (v25 : Int) (zseen2 : Bool) (_ : zseen2 = true → seen2 = []), (dom_kids_l3 x_ v17 d_ K2_ k) seen2 v25 = some o → ∀ s, Weak 0 s ⟨(upd (upd (upd (upd (upd (upd (upd (upd (upd (fun _ => none) 1 (some (.c (.ref 0 2 0 0)))) 3 (some (lstV zseen2 1 1 seen2.length))) 4 (some (I v17))) 15 (some (.c (.ro false 6 (d_.Nodes.map e_TNode))))) 16 (some (I (d_.Nodes.length : Int)))) 17 (some (I v17))) 23 (some (.c (.ro false 1 (x_.Kids.map eI))))) 24 (some (I (x_.Kids.length : Int)))) 25 (some (I v25))), (upd (upd (fun _ => none) 0 (some (.cells 2 [[.ro false 6 (d_.Nodes.map e_TNode), cB d_.Quirks]]))) 1 (lstB zseen2 1 (seen2.map eB))), 2⟩ → (AThen (fun s' => ∃ s'' k', Weak 0 s' s'' ∧ k' < k + 1 ∧ (fun k s => ∃ (seen2 : (List Bool)), ∃ (v25 : Int), ∃ (zseen2 : Bool), (zseen2 = true → seen2 = []) ∧ dom_kids_l3 x_ v17 d_ K2_ k seen2 v25 = some o ∧ s = ⟨(upd (upd (upd (upd (upd (upd (upd (upd (upd (fun _ => none) 1 (some (.c (.ref 0 2 0 0)))) 3 (some (lstV zseen2 1 1 seen2.length))) 4 (some (I v17))) 15 (some (.c (.ro false 6 (d_.Nodes.map e_TNode))))) 16 (some (I (d_.Nodes.length : Int)))) 17 (some (I v17))) 23 (some (.c (.ro false 1 (x_.Kids.map eI))))) 24 (some (I (x_.Kids.length : Int)))) 25 (some (I v25))), (upd (upd (fun _ => none) 0 (some (.cells 2 [[.ro false 6 (d_.Nodes.map e_TNode), cB d_.Quirks]]))) 1 (lstB zseen2 1 (seen2.map eB))), 2⟩) k' s'') Q) .normal s := fun seen2 v25 zseen2 hzseen2 h s hw => ⟨_, k, hw, Nat.lt_succ_self k, seen2, v25, zseen2, hzseen2, h, rfl⟩
  refine Sv.seq ?_
  refine Sv.region ?_
  refine un (a1 (v := (B (decide (v25 < (x_.Kids.length : Int))))) rfl ?_)
  refine dnil ?_
  refine Sv.seq ?_
  refine Sv.cond (b := decide (v25 < (x_.Kids.length : Int))) rfl (fun hc2 => ?_) (fun hc2 => ?_)
  · replace h := ifT hc2 h
    refine Sv.skip ?_
    refine Sv.seq ?_
    refine Sv.block ?_
    refine Sv.seq ?_
    refine Sv.region ?_
    obtain ⟨x_1, hx3, h⟩ := bnd h
    refine un (a1 (v := (.c (.rop [cI x_1]))) (s_iaddr (e := eI) (xs := x_.Kids) rfl rfl hx3) ?_)
    refine un (a1 (v := (I x_1)) rfl ?_)
    refine un (a1 rfl ?_)
    refine dnil ?_
    refine Sv.seq ?_
    refine Sv.block ?_
    refine Sv.seq ?_
    refine Sv.region ?_
    refine un (a1 rfl ?_)
    refine un (a1 (v := (B (decide (x_1 < 0)))) rfl ?_)
    refine un (a1 rfl ?_)
    refine gjoin 5 (d := 37) (v := (B ((decide (x_1 < 0)) || (decide ((seen2.length : Int) ≤ x_1))))) (fun X hX => ?_) ?_
    · refine split2 (fun hc6 => ?_) (fun hc6 => ?_)
      · refine gs rfl rfl ?_
        refine gs rfl rfl ?_
        refine gs rfl rfl ?_
        refine gs rfl rfl ?_
        refine un (a1 (v := (B true)) rfl ?_)
        refine dnil ?_
        exact hX _ (.putEq (by rw [hc6]; rfl) (.skip _ _ (.skip _ _ (.skip _ _ (.skip _ _ (.putEq (by rw [hc6]) (.refl _)) rfl) rfl) rfl) rfl))
      · refine gt rfl (a1 rfl ?_)
        refine gt rfl (a1 rfl ?_)
        refine gt rfl (a1 (v := (I (seen2.length : Int))) (s_lenL rfl (len_nil_of hzseen2)) ?_)
        refine gt rfl (a1 (v := (B (decide ((seen2.length : Int) ≤ x_1)))) rfl ?_)
        refine un (a1 (v := (B (decide ((seen2.length : Int) ≤ x_1)))) rfl ?_)
        refine dnil ?_
        exact hX _ (.putEq (by rw [hc6]; rfl) (.skip _ _ (.skip _ _ (.skip _ _ (.skip _ _ (.putEq (by rw [hc6]) (.refl _)) rfl) rfl) rfl) rfl))
    refine un (a1 rfl ?_)
    refine split2 (fun hc7 => ?_) (fun hc7 => ?_)
    · replace h := ifT hc7 h
      refine gs rfl rfl ?_
      refine gs rfl rfl ?_
      refine gs rfl rfl ?_
      refine gs rfl rfl ?_
      refine gs rfl rfl ?_
      refine gs rfl rfl ?_
      refine gs rfl rfl ?_
      refine gs rfl rfl ?_
      refine un (a1 (v := (B true)) rfl ?_)
      refine un (a1 rfl ?_)
      refine gs rfl rfl ?_
      refine gs rfl rfl ?_
      refine gs rfl rfl ?_
      refine gs rfl rfl ?_
      refine un (a1 (v := (B true)) rfl ?_)
      refine un (a1 rfl ?_)
      refine dnil ?_
      exact Sv.weak (weak_canon [0, 1] rfl (by decide) (by decide) (fun b h => absurd h (Nat.not_lt_zero _)) (.cons rfl (avAs_free rfl) (.cons rfl (avAs_free rfl) (.cons rfl (avAs_free rfl) (.cons rfl (avAs_free rfl) (.cons rfl (avAs_free rfl) (.cons rfl (avAs_free rfl) (.cons rfl (avAs_free rfl) (.cons rfl (avAs_free rfl) (.cons rfl (avAs_free rfl) (.cons rfl (.c (lstC_ren rfl (by decide))) (.cons rfl (.c (.ref rfl (by decide))) .nil))))))))))) (.row (by decide) rfl (fr_map fun _ => rfl) (.box (by decide) rfl (blkAs_cells (.cons (.same rfl) (.cons (.same rfl) .nil))) .nil))) (dom_kids_j17_ok hzseen2 h hself hK2 hr)
    · replace h := ifF hc7 h
      refine gt rfl (a1 (v := (.c (.ref 0 2 0 0))) rfl ?_)
      refine gt rfl (a1 (v := (.c (.ro false 6 (d_.Nodes.map e_TNode)))) rfl ?_)
      refine gt rfl (a1 rfl ?_)
      obtain ⟨x_4, hx6, h⟩ := bnd h
      refine gt rfl (a1 (v := (.c (.rop [cI x_4.Kind, .str x_4.Name, .ro false 2 (x_4.Attrs.map e_TAttr), .str x_4.Text, cI x_4.Parent, .ro false 1 (x_4.Kids.map eI)]))) (s_iaddr (e := e_TNode) (xs := d_.Nodes) rfl rfl hx6) ?_)
      refine gt rfl (a1 (v := (.c (.rop [cI x_4.Parent, .ro false 1 (x_4.Kids.map eI)]))) rfl ?_)
      refine gt rfl (a1 (v := (I x_4.Parent)) rfl ?_)
      refine gt rfl (a1 rfl ?_)
      refine gt rfl (a1 (v := (B (!decide (x_4.Parent = v17)))) rfl ?_)
      refine un (a1 (v := (B (!decide (x_4.Parent = v17)))) rfl ?_)
      refine un (a1 rfl ?_)
      refine split2 (fun hc8 => ?_) (fun hc8 => ?_)
      · replace h := ifT hc8 h
        refine gs rfl rfl ?_
        refine gs rfl rfl ?_
        refine gs rfl rfl ?_
        refine gs rfl rfl ?_
        refine un (a1 (v := (B true)) rfl ?_)
        refine un (a1 rfl ?_)
        refine dnil ?_
        exact Sv.weak (weak_canon [0, 1] rfl (by decide) (by decide) (fun b h => absurd h (Nat.not_lt_zero _)) (.cons rfl (avAs_free rfl) (.cons rfl (avAs_free rfl) (.cons rfl (avAs_free rfl) (.cons rfl (avAs_free rfl) (.cons rfl (avAs_free rfl) (.cons rfl (avAs_free rfl) (.cons rfl (avAs_free rfl) (.cons rfl (avAs_free rfl) (.cons rfl (avAs_free rfl) (.cons rfl (.c (lstC_ren rfl (by decide))) (.cons rfl (.c (.ref rfl (by decide))) .nil))))))))))) (.row (by decide) rfl (fr_map fun _ => rfl) (.box (by decide) rfl (blkAs_cells (.cons (.same rfl) (.cons (.same rfl) .nil))) .nil))) (dom_kids_j17_ok hzseen2 h hself hK2 hr)
      · replace h := ifF hc8 h
        refine gt rfl (a1 rfl ?_)
        refine gt rfl (a1 rfl ?_)
        obtain ⟨x_5, hx7, h⟩ := bnd h
        refine gt rfl (a1 (v := (.c (.ref 1 1 x_1.toNat 0))) (s_iaddrL rfl rfl hzseen2 hx7) ?_)
        refine gt rfl (a1 (v := (B x_5)) (s_loadL (z := zseen2) (e := eB) rfl rfl hzseen2 hx7 rfl rfl) ?_)
        refine un (a1 (v := (B x_5)) rfl ?_)
        refine un (a1 rfl ?_)
        refine dnil ?_
        exact Sv.weak (weak_canon [0, 1] rfl (by decide) (by decide) (fun b h => absurd h (Nat.not_lt_zero _)) (.cons rfl (avAs_free rfl) (.cons rfl (avAs_free rfl) (.cons rfl (avAs_free rfl) (.cons rfl (avAs_free rfl) (.cons rfl (avAs_free rfl) (.cons rfl (avAs_free rfl) (.cons rfl (avAs_free rfl) (.cons rfl (avAs_free rfl) (.cons rfl (avAs_free rfl) (.cons rfl (.c (lstC_ren rfl (by decide))) (.cons rfl (.c (.ref rfl (by decide))) .nil))))))))))) (.row (by decide) rfl (fr_map fun _ => rfl) (.box (by decide) rfl (blkAs_cells (.cons (.same rfl) (.cons (.same rfl) .nil))) .nil))) (dom_kids_j17_ok hzseen2 h hself hK2 hr)
  · replace h := ifF hc2 h
    refine Sv.exit ?_
    exact hK2 seen2 zseen2 hzseen2 h _ (weak_canon [0, 1] rfl (by decide) (by decide) (fun b h => absurd h (Nat.not_lt_zero _)) (.cons rfl (avAs_free rfl) (.cons rfl (avAs_free rfl) (.cons rfl (avAs_free rfl) (.cons rfl (.c (lstC_ren rfl (by decide))) (.cons rfl (.c (.ref rfl (by decide))) .nil))))) (.row (by decide) rfl (fr_map fun _ => rfl) (.box (by decide) rfl (blkAs_cells (.cons (.same rfl) (.cons (.same rfl) .nil))) .nil)))
noncomputable def dom_kids_l2 (d_ : TDoc) (K0_ : (List Bool) → Option Int) : Nat → (List Bool) → Int → Option Int
  | 0, _, _ => none
  | k + 1, seen, v17 =>
    if decide (v17 < (d_.Nodes.length : Int)) then
      (at? d_.Nodes v17).bind fun x_ =>
      lim fun kk => dom_kids_l3 x_ v17 d_ (fun (seen3 : (List Bool)) => 
          (dom_kids_l2 d_ K0_ k) seen3 (wi (v17 + 1))) kk seen 0
    else
      K0_ seen
theorem dom_kids_l2_ok {mL : Int} {Q : AExit → St → Prop} {d_ : TDoc} {K0_ : (List Bool) → Option Int} {k : Nat} {seen : (List Bool)} {v17 : Int} {zseen : Bool} (hzseen : zseen = true → seen = []) {o : Int} (h : dom_kids_l2 d_ K0_ k seen v17 = some o)
    (hK0 : ∀ (seen1 : (List Bool)) (zseen1 : Bool) (_ : zseen1 = true → seen1 = []), K0_ seen1 = some o → ∀ s, Weak 0 s ⟨(upd (upd (fun _ => none) 1 (some (.c (.ref 0 2 0 0)))) 3 (some (lstV zseen1 1 1 seen1.length))), (upd (upd (fun _ => none) 0 (some (.cells 2 [[.ro false 6 (d_.Nodes.map e_TNode), cB d_.Quirks]]))) 1 (lstB zseen1 1 (seen1.map eB))), 2⟩ → Q (.exit 0) s)
    (hr : ∀ s, Ends a80.results 0 (dom_kids_post o) .ret s → Q .ret s) :
    Sv Tryd.prog (GG mL) 0 (.loop a80_c5) Q ⟨(upd (upd (upd (upd (upd (fun _ => none) 1 (some (.c (.ref 0 2 0 0)))) 3 (some (lstV zseen 1 1 seen.length))) 15 (some (.c (.ro false 6 (d_.Nodes.map e_TNode))))) 16 (some (I (d_.Nodes.length : Int)))) 17 (some (I v17))), (upd (upd (fun _ => none) 0 (some (.cells 2 [[.ro false 6 (d_.Nodes.map e_TNode), cB d_.Quirks]]))) 1 (lstB zseen 1 (seen.map eB))), 2⟩ := by
  refine Sv.loop (I := fun k s => ∃ (seen : (List Bool)), ∃ (v17 : Int), ∃ (zseen : Bool), (zseen = true → seen = []) ∧ dom_kids_l2 d_ K0_ k seen v17 = some o ∧ s = ⟨(upd (upd (upd (upd (upd (fun _ => none) 1 (some (.c (.ref 0 2 0 0)))) 3 (some (lstV zseen 1 1 seen.length))) 15 (some (.c (.ro false 6 (d_.Nodes.map e_TNode))))) 16 (some (I (d_.Nodes.length : Int)))) 17 (some (I v17))), (upd (upd (fun _ => none) 0 (some (.cells 2 [[.ro false 6 (d_.Nodes.map e_TNode), cB d_.Quirks]]))) 1 (lstB zseen 1 (seen.map eB))), 2⟩) (fun k s hI => ?_) ⟨seen, v17, zseen, hzseen, h, rfl⟩
  clear h
  clear hzseen zseen v17 seen
  obtain ⟨seen, v17, zseen, hzseen, h, rfl⟩ := hI
  cases k with
  | zero => cases h
  | succ k =>
  rw [dom_kids_l2] at h
  have hself : ∀ (seen : (List Bool)) (v17 : Int) (zseen : Bool) (_ : zseen = true → seen = []), (dom_kids_l2 d_ K0_ k) seen v17 = some o → ∀ s, Weak 0 s ⟨(upd (upd (upd (upd (upd (fun _ => none) 1 (some (.c (.ref 0 2 0 0)))) 3 (some (lstV zseen 1 1 seen.length))) 15 (some (.c (.ro false 6 (d_.Nodes.map e_TNode))))) 16 (some (I (d_.Nodes.length : Int)))) 17 (some (I v17))), (upd (upd (fun _ => none) 0 (some (.cells 2 [[.ro false 6 (d_.Nodes.map e_TNode), cB d_.Quirks]]))) 1 (lstB zseen 1 (seen.map eB))), 2⟩ → (AThen (fun s' => ∃ s'' k', Weak 0 s' s'' ∧ k' < k + 1 ∧ (fun k s => ∃ (seen : (List Bool)), ∃ (v17 : Int), ∃ (zseen : Bool), (zseen = true → seen = []) ∧ dom_kids_l2 d_ K0_ k seen v17 = some o ∧ s = ⟨(upd (upd (upd (upd (upd (fun _ => none) 1 (some (.c (.ref 0 2 0 0)))) 3 (some (lstV zseen 1 1 seen.length))) 15 (some (.c (.ro false 6 (d_.Nodes.map e_TNode))))) 16 (some (I (d_.Nodes.length : Int)))) 17 (some (I v17))), (upd (upd (fun _ => none) 0 (some (.cells 2 [[.ro false 6 (d_.Nodes.map e_TNode), cB d_.Quirks]]))) 1 (lstB zseen 1 (seen.map eB))), 2⟩) k' s'') Q) .normal s := fun seen v17 zseen hzseen h s hw => ⟨_, k, hw, Nat.lt_succ_self k, seen, v17, zseen, hzseen, h, rfl⟩
  refine Sv.seq ?_
  refine Sv.region ?_
  refine un (a1 (v := (B (decide (v17 < (d_.Nodes.length : Int))))) rfl ?_)
  refine dnil ?_
  refine Sv.seq ?_
  refine Sv.cond (b := decide (v17 < (d_.Nodes.length : Int))) rfl (fun hc1 => ?_) (fun hc1 => ?_)
  · replace h := ifT hc1 h
    refine Sv.skip ?_
    refine Sv.seq ?_
    refine Sv.block ?_
    refine Sv.seq ?_
    refine Sv.region ?_
    refine un (a1 rfl ?_)
    obtain ⟨x_, hx2, h⟩ := bnd h
    refine un (a1 (v := (.c (.rop [cI x_.Kind, .str x_.Name, .ro false 2 (x_.Attrs.map e_TAttr), .str x_.Text, cI x_.Parent, .ro false 1 (x_.Kids.map eI)]))) (s_iaddr (e := e_TNode) (xs := d_.Nodes) rfl rfl hx2) ?_)
    refine un (a1 (v := (.agg [cI x_.Kind, .str x_.Name, .ro false 2 (x_.Attrs.map e_TAttr), .str x_.Text, cI x_.Parent, .ro false 1 (x_.Kids.map eI)])) rfl ?_)
    refine un (a2v (v := (.c (.ref 2 6 0 0))) (h' := upd _ 2 (some (.cells 6 [[cI 0, .str [], .ro true 2 [], .str [], cI 0, .ro true 1 []]]))) (n' := 3) rfl rfl (fun h => by cases h) ?_)
    refine un (a1 rfl ?_)
    refine un (a2n (h' := upd _ 2 (some (.cells 6 [[cI x_.Kind, .str x_.Name, .ro false 2 (x_.Attrs.map e_TAttr), .str x_.Text, cI x_.Parent, .ro false 1 (x_.Kids.map eI)]]))) (n' := 3) rfl rfl (fun h => by cases h) ?_)
    refine dnil ?_
    refine Sv.seq ?_
    refine Sv.region ?_
    refine un (a1 (v := (.c (.ref 2 6 0 5))) rfl ?_)
    refine un (a1 (v := (.c (.ro false 1 (x_.Kids.map eI)))) rfl ?_)
    refine un (a1 (v := (I (x_.Kids.length : Int))) (s_len (e := eI) (xs := x_.Kids) rfl) ?_)
    refine un (a1 rfl ?_)
    refine dnil ?_
    refine Sv.block ?_
    obtain ⟨kk, h⟩ := lim_some h
    refine Sv.weak (weak_canon [0, 1] rfl (by decide) (by decide) (fun b h => absurd h (Nat.not_lt_zero _)) (.cons rfl (avAs_free rfl) (.cons rfl (avAs_free rfl) (.cons rfl (avAs_free rfl) (.cons rfl (avAs_free rfl) (.cons rfl (avAs_free rfl) (.cons rfl (avAs_free rfl) (.cons rfl (avAs_free rfl) (.cons rfl (.c (lstC_ren rfl (by decide))) (.cons rfl (.c (.ref rfl (by decide))) .nil))))))))) (.row (by decide) rfl (fr_map fun _ => rfl) (.box (by decide) rfl (blkAs_cells (.cons (.same rfl) (.cons (.same rfl) .nil))) .nil))) (dom_kids_l3_ok hzseen h ?_ hr)
    · intro seen3 zseen3 hzseen3 h _ hw1
      refine Sv.weak hw1 ?_
      refine Sv.region ?_
      refine un (a1 (v := (I (wi (v17 + 1)))) rfl ?_)
      refine un (a1 rfl ?_)
      refine dnil ?_
      exact hself seen3 (wi (v17 + 1)) zseen3 hzseen3 h _ (weak_canon [0, 1] rfl (by decide) (by decide) (fun b h => absurd h (Nat.not_lt_zero _)) (.cons rfl (avAs_free rfl) (.cons rfl (avAs_free rfl) (.cons rfl (avAs_free rfl) (.cons rfl (.c (lstC_ren rfl (by decide))) (.cons rfl (.c (.ref rfl (by decide))) .nil))))) (.row (by decide) rfl (fr_map fun _ => rfl) (.box (by decide) rfl (blkAs_cells (.cons (.same rfl) (.cons (.same rfl) .nil))) .nil)))
  · replace h := ifF hc1 h
    refine Sv.exit ?_
    exact hK0 seen zseen hzseen h _ (weak_canon [0, 1] rfl (by decide) (by decide) (fun b h => absurd h (Nat.not_lt_zero _)) (.cons rfl (.c (lstC_ren rfl (by decide))) (.cons rfl (.c (.ref rfl (by decide))) .nil)) (.row (by decide) rfl (fr_map fun _ => rfl) (.box (by decide) rfl (blkAs_cells (.cons (.same rfl) (.cons (.same rfl) .nil))) .nil)))
abbrev dom_kids_q4 (mL : Int) (Q : AExit → St → Prop) : AExit → St → Prop := AThen (Sv Tryd.prog (GG mL) 0 a80_c7 Q) Q
abbrev dom_kids_q5 (mL : Int) (Q : AExit → St → Prop) : AExit → St → Prop := ABlock 6 (dom_kids_q4 mL Q)
noncomputable def dom_kids_j21 (v74 : Int) (d_ : TDoc) (self : (List Bool) → Int → Option Int) (K5_ : Unit → Option Int) (seen7 : (List Bool)) (v88 : Bool) : Option Int :=
  if v88 then
    some 3
  else
    self seen7 (wi (v74 + 1))
theorem dom_kids_j21_ok {mL : Int} {Q : AExit → St → Prop} {v74 : Int} {d_ : TDoc} {self : (List Bool) → Int → Option Int} {K5_ : Unit → Option Int} {seen7 : (List Bool)} {v88 : Bool} {zseen7 : Bool} (hzseen7 : zseen7 = true → seen7 = []) {o : Int} (h : dom_kids_j21 v74 d_ self K5_ seen7 v88 = some o)
    (hself : ∀ (seen6 : (List Bool)) (v74 : Int) (zseen6 : Bool) (_ : zseen6 = true → seen6 = []), self seen6 v74 = some o → ∀ s, Weak 0 s ⟨(upd (upd (upd (upd (upd (fun _ => none) 1 (some (.c (.ref 0 2 0 0)))) 3 (some (lstV zseen6 1 1 seen6.length))) 72 (some (.c (.ro false 6 (d_.Nodes.map e_TNode))))) 73 (some (I (d_.Nodes.length : Int)))) 74 (some (I v74))), (upd (upd (fun _ => none) 0 (some (.cells 2 [[.ro false 6 (d_.Nodes.map e_TNode), cB d_.Quirks]]))) 1 (lstB zseen6 1 (seen6.map eB))), 2⟩ → (Q) .normal s)
    (hK5 : ∀ (_ : Unit), K5_ () = some o → ∀ s, Weak 0 s ⟨(upd (fun _ => none) 1 (some (.c (.ref 0 2 0 0)))), (upd (fun _ => none) 0 (some (.cells 2 [[.ro false 6 (d_.Nodes.map e_TNode), cB d_.Quirks]]))), 1⟩ → Q (.exit 5) s)
    (hr : ∀ s, Ends a80.results 0 (dom_kids_post o) .ret s → Q .ret s) :
    Sv Tryd.prog (GG mL) 0 a80_c6 (dom_kids_q5 mL Q) ⟨(upd (upd (upd (upd (upd (upd (fun _ => none) 1 (some (.c (.ref 0 2 0 0)))) 3 (some (lstV zseen7 1 1 seen7.length))) 72 (some (.c (.ro false 6 (d_.Nodes.map e_TNode))))) 73 (some (I (d_.Nodes.length : Int)))) 74 (some (I v74))) 88 (some (B v88))), (upd (upd (fun _ => none) 0 (some (.cells 2 [[.ro false 6 (d_.Nodes.map e_TNode), cB d_.Quirks]]))) 1 (lstB zseen7 1 (seen7.map eB))), 2⟩ := by
  unfold dom_kids_j21 at h
  refine Sv.cond (b := v88) rfl (fun hc10 => ?_) (fun hc10 => ?_)
  · replace h := ifT hc10 h
    refine Sv.seq ?_
    refine Sv.region ?_
    refine un (a1 rfl ?_)
    refine dnil ?_
    refine Sv.ret ?_
    replace h := Option.some.inj h
    subst h
    exact hr _ ⟨_, .refl _, _, rfl, ⟨upd (fun _ => none) 0 (some (I 3)), (fun _ => none), 0⟩, (I 3), weak_canon [] rfl List.nodup_nil (Nat.le_refl _) (fun b h => absurd h (Nat.not_lt_zero _)) (.cons rfl (avAs_free rfl) .nil) .nil, rfl, rfl, rfl, rfl⟩
  · replace h := ifF hc10 h
    refine Sv.skip ?_
    refine Sv.region ?_
    refine un (a1 (v := (I (wi (v74 + 1)))) rfl ?_)
    refine un (a1 rfl ?_)
    refine dnil ?_
    exact hself seen7 (wi (v74 + 1)) zseen7 hzseen7 h _ (weak_canon [0, 1] rfl (by decide) (by decide) (fun b h => absurd h (Nat.not_lt_zero _)) (.cons rfl (avAs_free rfl) (.cons rfl (avAs_free rfl) (.cons rfl (avAs_free rfl) (.cons rfl (.c (lstC_ren rfl (by decide))) (.cons rfl (.c (.ref rfl (by decide))) .nil))))) (.row (by decide) rfl (fr_map fun _ => rfl) (.box (by decide) rfl (blkAs_cells (.cons (.same rfl) (.cons (.same rfl) .nil))) .nil)))
noncomputable def dom_kids_l4 (d_ : TDoc) (K5_ : Unit → Option Int) : Nat → (List Bool) → Int → Option Int
  | 0, _, _ => none
  | k + 1, seen6, v74 =>
    if decide (v74 < (d_.Nodes.length : Int)) then
      (at? d_.Nodes v74).bind fun x_6 =>
      if (!decide (x_6.Parent = (-1))) then
        (at? seen6 v74).bind fun x_7 =>
        dom_kids_j21 v74 d_ (dom_kids_l4 d_ K5_ k) K5_ seen6 (!x_7)
      else
        dom_kids_j21 v74 d_ (dom_kids_l4 d_ K5_ k) K5_ seen6 false
    else
      K5_ ()
theorem dom_kids_l4_ok {mL : Int} {Q : AExit → St → Prop} {d_ : TDoc} {K5_ : Unit → Option Int} {k : Nat} {seen6 : (List Bool)} {v74 : Int} {zseen6 : Bool} (hzseen6 : zseen6 = true → seen6 = []) {o : Int} (h : dom_kids_l4 d_ K5_ k seen6 v74 = some o)
    (hK5 : ∀ (_ : Unit), K5_ () = some o → ∀ s, Weak 0 s ⟨(upd (fun _ => none) 1 (some (.c (.ref 0 2 0 0)))), (upd (fun _ => none) 0 (some (.cells 2 [[.ro false 6 (d_.Nodes.map e_TNode), cB d_.Quirks]]))), 1⟩ → Q (.exit 5) s)
    (hr : ∀ s, Ends a80.results 0 (dom_kids_post o) .ret s → Q .ret s) :
    Sv Tryd.prog (GG mL) 0 (.loop a80_c8) Q ⟨(upd (upd (upd (upd (upd (fun _ => none) 1 (some (.c (.ref 0 2 0 0)))) 3 (some (lstV zseen6 1 1 seen6.length))) 72 (some (.c (.ro false 6 (d_.Nodes.map e_TNode))))) 73 (some (I (d_.Nodes.length : Int)))) 74 (some (I v74))), (upd (upd (fun _ => none) 0 (some (.cells 2 [[.ro false 6 (d_.Nodes.map e_TNode), cB d_.Quirks]]))) 1 (lstB zseen6 1 (seen6.map eB))), 2⟩ := by
  refine Sv.loop (I := fun k s => ∃ (seen6 : (List Bool)), ∃ (v74 : Int), ∃ (zseen6 : Bool), (zseen6 = true → seen6 = []) ∧ dom_kids_l4 d_ K5_ k seen6 v74 = some o ∧ s = ⟨(upd (upd (upd (upd (upd (fun _ => none) 1 (some (.c (.ref 0 2 0 0)))) 3 (some (lstV zseen6 1 1 seen6.length))) 72 (some (.c (.ro false 6 (d_.Nodes.map e_TNode))))) 73 (some (I (d_.Nodes.length : Int)))) 74 (some (I v74))), (upd (upd (fun _ => none) 0 (some (.cells 2 [[.ro false 6 (d_.Nodes.map e_TNode), cB d_.Quirks]]))) 1 (lstB zseen6 1 (seen6.map eB))), 2⟩) (fun k s hI => ?_) ⟨seen6, v74, zseen6, hzseen6, h, rfl⟩
  clear h
  clear hzseen6 zseen6 v74 seen6
  obtain ⟨seen6, v74, zseen6, hzseen6, h, rfl⟩ := hI
  cases k with
  | zero => cases h
  | succ k =>
  rw [dom_kids_l4] at h
  have hself : ∀ (seen6 : (List Bool)) (v74 : Int) (zseen6 : Bool) (_ : zseen6 = true → seen6 = []), (dom_kids_l4 d_ K5_ k) seen6 v74 = some o → ∀ s, Weak 0 s ⟨(upd (upd (upd (upd (upd (fun _ => none) 1 (some (.c (.ref 0 2 0 0)))) 3 (some (lstV zseen6 1 1 seen6.length))) 72 (some (.c (.ro false 6 (d_.Nodes.map e_TNode))))) 73 (some (I (d_.Nodes.length : Int)))) 74 (some (I v74))), (upd (upd (fun _ => none) 0 (some (.cells 2 [[.ro false 6 (d_.Nodes.map e_TNode), cB d_.Quirks]]))) 1 (lstB zseen6 1 (seen6.map eB))), 2⟩ → (AThen (fun s' => ∃ s'' k', Weak 0 s' s'' ∧ k' < k + 1 ∧ (fun k s => ∃ (seen6 : (List Bool)), ∃ (v74 : Int), ∃ (zseen6 : Bool), (zseen6 = true → seen6 = []) ∧ dom_kids_l4 d_ K5_ k seen6 v74 = some o ∧ s = ⟨(upd (upd (upd (upd (upd (fun _ => none) 1 (some (.c (.ref 0 2 0 0)))) 3 (some (lstV zseen6 1 1 seen6.length))) 72 (some (.c (.ro false 6 (d_.Nodes.map e_TNode))))) 73 (some (I (d_.Nodes.length : Int)))) 74 (some (I v74))), (upd (upd (fun _ => none) 0 (some (.cells 2 [[.ro false 6 (d_.Nodes.map e_TNode), cB d_.Quirks]]))) 1 (lstB zseen6 1 (seen6.map eB))), 2⟩) k' s'') Q) .normal s := fun seen6 v74 zseen6 hzseen6 h s hw => ⟨_, k, hw, Nat.lt_succ_self k, seen6, v74, zseen6, hzseen6, h, rfl⟩
  refine Sv.seq ?_
  refine Sv.region ?_
  refine un (a1 (v := (B (decide (v74 < (d_.Nodes.length : Int))))) rfl ?_)
  refine dnil ?_
  refine Sv.seq ?_
  refine Sv.cond (b := decide (v74 < (d_.Nodes.length : Int))) rfl (fun hc9 => ?_) (fun hc9 => ?_)
  · replace h := ifT hc9 h
    refine Sv.skip ?_
    refine Sv.seq ?_
    refine Sv.block ?_
    refine Sv.seq ?_
    refine Sv.region ?_
    refine un (a1 rfl ?_)
    obtain ⟨x_6, hx8, h⟩ := bnd h
    refine un (a1 (v := (.c (.rop [cI x_6.Kind, .str x_6.Name, .ro false 2 (x_6.Attrs.map e_TAttr), .str x_6.Text, cI x_6.Parent, .ro false 1 (x_6.Kids.map eI)]))) (s_iaddr (e := e_TNode) (xs := d_.Nodes) rfl rfl hx8) ?_)
    refine un (a1 (v := (.agg [cI x_6.Kind, .str x_6.Name, .ro false 2 (x_6.Attrs.map e_TAttr), .str x_6.Text, cI x_6.Parent, .ro false 1 (x_6.Kids.map eI)])) rfl ?_)
    refine un (a2v (v := (.c (.ref 2 6 0 0))) (h' := upd _ 2 (some (.cells 6 [[cI 0, .str [], .ro true 2 [], .str [], cI 0, .ro true 1 []]]))) (n' := 3) rfl rfl (fun h => by cases h) ?_)
    refine un (a1 rfl ?_)
    refine un (a2n (h' := upd _ 2 (some (.cells 6 [[cI x_6.Kind, .str x_6.Name, .ro false 2 (x_6.Attrs.map e_TAttr), .str x_6.Text, cI x_6.Parent, .ro false 1 (x_6.Kids.map eI)]]))) (n' := 3) rfl rfl (fun h => by cases h) ?_)
    refine dnil ?_
    refine Sv.seq ?_
    refine Sv.region ?_
    refine un (a1 (v := (.c (.ref 2 6 0 4))) rfl ?_)
    refine un (a1 (v := (I x_6.Parent)) rfl ?_)
    refine un (a1 (v := (B (!decide (x_6.Parent = (-1))))) rfl ?_)
    refine un (a1 rfl ?_)
    refine split2 (fun hc11 => ?_) (fun hc11 => ?_)
    · replace h := ifT hc11 h
      refine gt rfl (a1 rfl ?_)
      refine gt rfl (a1 rfl ?_)
      obtain ⟨x_7, hx9, h⟩ := bnd h
      refine gt rfl (a1 (v := (.c (.ref 1 1 v74.toNat 0))) (s_iaddrL rfl rfl hzseen6 hx9) ?_)
      refine gt rfl (a1 (v := (B x_7)) (s_loadL (z := zseen6) (e := eB) rfl rfl hzseen6 hx9 rfl rfl) ?_)
      refine gt rfl (a1 (v := (B (!x_7))) rfl ?_)
      refine un (a1 (v := (B (!x_7))) rfl ?_)
      refine dnil ?_
      exact Sv.weak (weak_canon [0, 1] rfl (by decide) (by decide) (fun b h => absurd h (Nat.not_lt_zero _)) (.cons rfl (avAs_free rfl) (.cons rfl (avAs_free rfl) (.cons rfl (avAs_free rfl) (.cons rfl (avAs_free rfl) (.cons rfl (.c (lstC_ren rfl (by decide))) (.cons rfl (.c (.ref rfl (by decide))) .nil)))))) (.row (by decide) rfl (fr_map fun _ => rfl) (.box (by decide) rfl (blkAs_cells (.cons (.same rfl) (.cons (.same rfl) .nil))) .nil))) (dom_kids_j21_ok hzseen6 h hself hK5 hr)
    · replace h := ifF hc11 h
      refine gs rfl rfl ?_
      refine gs rfl rfl ?_
      refine gs rfl rfl ?_
      refine gs rfl rfl ?_
      refine gs rfl rfl ?_
      refine un (a1 (v := (B false)) rfl ?_)
      refine dnil ?_
      exact Sv.weak (weak_canon [0, 1] rfl (by decide) (by decide) (fun b h => absurd h (Nat.not_lt_zero _)) (.cons rfl (avAs_free rfl) (.cons rfl (avAs_free rfl) (.cons rfl (avAs_free rfl) (.cons rfl (avAs_free rfl) (.cons rfl (.c (lstC_ren rfl (by decide))) (.cons rfl (.c (.ref rfl (by decide))) .nil)))))) (.row (by decide) rfl (fr_map fun _ => rfl) (.box (by decide) rfl (blkAs_cells (.cons (.same rfl) (.cons (.same rfl) .nil))) .nil))) (dom_kids_j21_ok hzseen6 h hself hK5 hr)
  · replace h := ifF hc9 h
    refine Sv.exit ?_
    exact hK5 () h _ (weak_canon [0] rfl (by decide) (by decide) (fun b h => absurd h (Nat.not_lt_zero _)) (.cons rfl (.c (.ref rfl (by decide))) .nil) (.box (by decide) rfl (blkAs_cells (.cons (.same rfl) (.cons (.same rfl) .nil))) .nil))
/-- clerestory/dom.kids -/
noncomputable def dom_kids (d_ : TDoc) : Option Int :=
  (mkl? 1 (d_.Nodes.length : Int) (d_.Nodes.length : Int) (false : Bool)).bind fun row =>
  lim fun kk2 => dom_kids_l2 d_ (fun (seen1 : (List Bool)) => 
      lim fun kk1 => dom_kids_l4 d_ (fun (_ : Unit) => 
          (at? d_.Nodes 0).bind fun x_8 =>
          if (!decide (x_8.Parent = (-1))) then
            some 3
          else
            some 0) kk1 seen1 0) kk2 row 0
theorem dom_kids_ok {mL : Int} {d_ : TDoc} {r : Int} (h : dom_kids d_ = some r) : CPure Tryd.prog (GG mL) 80 [(.agg [.ro false 6 (d_.Nodes.map e_TNode), cB d_.Quirks])] (I r) := by
  refine acalls_of_sv hmix c80 (R := dom_kids_post r) ?_
  unfold dom_kids at h
  refine Sv.seq ?_
  refine Sv.region ?_
  refine un (a2v (v := (.c (.ref 0 2 0 0))) (h' := upd _ 0 (some (.cells 2 [[.ro false 6 (d_.Nodes.map e_TNode), cB d_.Quirks]]))) (n' := 1) rfl rfl (fun h => by cases h) ?_)
  refine un (a1 rfl ?_)
  refine dnil ?_
  refine Sv.seq ?_
  refine Sv.region ?_
  refine un (a1 (v := (.c (.ref 0 2 0 0))) rfl ?_)
  refine un (a1 (v := (.c (.ro false 6 (d_.Nodes.map e_TNode)))) rfl ?_)
  refine un (a1 (v := (I (d_.Nodes.length : Int))) (s_len (e := e_TNode) (xs := d_.Nodes) rfl) ?_)
  obtain ⟨row, hx1, h⟩ := bnd h
  refine un (a2mk (e := eB) rfl rfl hx1 (fun _ _ => (.cons (.same rfl) .nil)) ?_)
  refine un (a1 rfl ?_)
  refine dnil ?_
  refine Sv.seq ?_
  refine Sv.seq ?_
  refine Sv.region ?_
  refine un (a1 (v := (.c (.ref 0 2 0 0))) rfl ?_)
  refine un (a1 (v := (.c (.ro false 6 (d_.Nodes.map e_TNode)))) rfl ?_)
  refine un (a1 (v := (I (d_.Nodes.length : Int))) (s_len (e := e_TNode) (xs := d_.Nodes) rfl) ?_)
  refine un (a1 rfl ?_)
  refine dnil ?_
  refine Sv.block ?_
  obtain ⟨kk2, h⟩ := lim_some h
  refine Sv.weak (weak_canon [0, 1] rfl (by decide) (by decide) (fun b h => absurd h (Nat.not_lt_zero _)) (.cons rfl (avAs_free rfl) (.cons rfl (avAs_free rfl) (.cons rfl (avAs_free rfl) (.cons rfl (.c (lstC_ren rfl (by decide))) (.cons rfl (.c (.ref rfl (by decide))) .nil))))) (.row (by decide) rfl (fr_map fun _ => rfl) (.box (by decide) rfl (blkAs_cells (.cons (.same rfl) (.cons (.same rfl) .nil))) .nil))) (dom_kids_l2_ok (fun h => by cases h) h ?_ (fun s hs => hs))
  · intro seen1 zseen1 hzseen1 h _ hw2
    refine Sv.weak hw2 ?_
    refine Sv.seq ?_
    refine Sv.seq ?_
    refine Sv.region ?_
    refine un (a1 (v := (.c (.ref 0 2 0 0))) rfl ?_)
    refine un (a1 (v := (.c (.ro false 6 (d_.Nodes.map e_TNode)))) rfl ?_)
    refine un (a1 (v := (I (d_.Nodes.length : Int))) (s_len (e := e_TNode) (xs := d_.Nodes) rfl) ?_)
    refine un (a1 rfl ?_)
    refine dnil ?_
    refine Sv.block ?_
    obtain ⟨kk1, h⟩ := lim_some h
    refine Sv.weak (weak_canon [0, 1] rfl (by decide) (by decide) (fun b h => absurd h (Nat.not_lt_zero _)) (.cons rfl (avAs_free rfl) (.cons rfl (avAs_free rfl) (.cons rfl (avAs_free rfl) (.cons rfl (.c (lstC_ren rfl (by decide))) (.cons rfl (.c (.ref rfl (by decide))) .nil))))) (.row (by decide) rfl (fr_map fun _ => rfl) (.box (by decide) rfl (blkAs_cells (.cons (.same rfl) (.cons (.same rfl) .nil))) .nil))) (dom_kids_l4_ok hzseen1 h ?_ (fun s hs => hs))
    · intro _ h _ hw3
      refine Sv.weak hw3 ?_
      refine Sv.seq ?_
      refine Sv.seq ?_
      refine Sv.region ?_
      refine un (a1 (v := (.c (.ref 0 2 0 0))) rfl ?_)
      refine un (a1 (v := (.c (.ro false 6 (d_.Nodes.map e_TNode)))) rfl ?_)
      obtain ⟨x_8, hx10, h⟩ := bnd h
      refine un (a1 (v := (.c (.rop [cI x_8.Kind, .str x_8.Name, .ro false 2 (x_8.Attrs.map e_TAttr), .str x_8.Text, cI x_8.Parent, .ro false 1 (x_8.Kids.map eI)]))) (s_iaddr (e := e_TNode) (xs := d_.Nodes) rfl rfl hx10) ?_)
      refine un (a1 (v := (.c (.rop [cI x_8.Parent, .ro false 1 (x_8.Kids.map eI)]))) rfl ?_)
      refine un (a1 (v := (I x_8.Parent)) rfl ?_)
      refine un (a1 (v := (B (!decide (x_8.Parent = (-1))))) rfl ?_)
      refine dnil ?_
      refine Sv.cond (b := (!decide (x_8.Parent = (-1)))) rfl (fun hc12 => ?_) (fun hc12 => ?_)
      · replace h := ifT hc12 h
        refine Sv.seq ?_
        refine Sv.region ?_
        refine un (a1 rfl ?_)
        refine dnil ?_
        refine Sv.ret ?_
        replace h := Option.some.inj h
        subst h
        exact ⟨_, .refl _, _, rfl, ⟨upd (fun _ => none) 0 (some (I 3)), (fun _ => none), 0⟩, (I 3), weak_canon [] rfl List.nodup_nil (Nat.le_refl _) (fun b h => absurd h (Nat.not_lt_zero _)) (.cons rfl (avAs_free rfl) .nil) .nil, rfl, rfl, rfl, rfl⟩
      · replace h := ifF hc12 h
        refine Sv.skip ?_
        refine Sv.seq ?_
        refine Sv.region ?_
        refine un (a1 rfl ?_)
        refine dnil ?_
        refine Sv.ret ?_
        replace h := Option.some.inj h
        subst h
        exact ⟨_, .refl _, _, rfl, ⟨upd (fun _ => none) 0 (some (I 0)), (fun _ => none), 0⟩, (I 0), weak_canon [] rfl List.nodup_nil (Nat.le_refl _) (fun b h => absurd h (Nat.not_lt_zero _)) (.cons rfl (avAs_free rfl) .nil) .nil, rfl, rfl, rfl, rfl⟩
def a81_c0 : ACode := (.seq (.seq (.region [⟨(some 5), (.faddr 0 (.tmp 2)), none⟩, ⟨(some 6), (.load false 1 (.tmp 5)), none⟩, ⟨(some 7), (.mov (.tmp 1)), none⟩, ⟨(some 8), (.iaddr 6 (.tmp 6) (.tmp 7)), none⟩, ⟨(some 9), (.faddr 4 (.tmp 8)), none⟩, ⟨(some 10), (.load false 1 (.tmp 9)), none⟩, ⟨(some 11), (.bin .geq (.tmp 10) (.const (.c (.val (.int .i64 0))))), none⟩, ⟨(some 12), (.mov (.tmp 11)), none⟩, ⟨(some 13), (.mov (.tmp 4)), (some (12, true))⟩, ⟨(some 14), (.faddr 0 (.tmp 2)), (some (12, true))⟩, ⟨(some 15), (.load false 1 (.tmp 14)), (some (12, true))⟩, ⟨(some 16), (.len (.tmp 15)), (some (12, true))⟩, ⟨(some 17), (.bin .leq (.tmp 13) (.tmp 16)), (some (12, true))⟩, ⟨(some 18), (.pick (.tmp 12) (.tmp 17) (.const (.c (.val (.bool false))))), none⟩])
 (.cond (.tmp 18) .skip (.exit 0)))
 (.seq (.block 1 (.region [⟨(some 25), (.mov (.tmp 4)), none⟩, ⟨(some 26), (.bin .add (.tmp 25) (.const (.c (.val (.int .i64 1))))), none⟩, ⟨(some 4), (.mov (.tmp 26)), none⟩]))
 (.region [⟨(some 19), (.faddr 0 (.tmp 2)), none⟩, ⟨(some 20), (.load false 1 (.tmp 19)), none⟩, ⟨(some 21), (.mov (.tmp 1)), none⟩, ⟨(some 22), (.iaddr 6 (.tmp 20) (.tmp 21)), none⟩, ⟨(some 23), (.faddr 4 (.tmp 22)), none⟩, ⟨(some 24), (.load false 1 (.tmp 23)), none⟩, ⟨(some 1), (.mov (.tmp 24)), none⟩])))
def a81 : AFunc := ⟨2, [(.tmp 4)], (.seq (.region [⟨(some 2), (.box (.tmp 0)), none⟩, ⟨(some 4), (.mov (.const (.c (.val (.int .i64 0))))), none⟩])
 (.seq (.block 0 (.loop a81_c0))
 (.seq (.region [⟨(some 27), (.mov (.tmp 4)), none⟩, ⟨(some 4), (.mov (.tmp 27)), none⟩])
 .ret)))⟩
set_option maxRecDepth 100000 in
theorem c81 : compFunc Tryd.prog 81 = some a81 := by kernel_rfl
def dom_up_post (r : Int) : AV → Heap → Nat → Prop := fun v h' n' => v = (I r) ∧ (h' = (fun _ => none)) ∧ n' = 0
noncomputable def dom_up_l0 (d_ : TDoc) (K0_ : Int → Option Int) : Nat → Int → Int → Option Int
  | 0, _, _ => none
  | k + 1, n_1, many =>
    (at? d_.Nodes n_1).bind fun x_ =>
    if ((decide (0 ≤ x_.Parent)) && (decide (many ≤ (d_.Nodes.length : Int)))) then
      (at? d_.Nodes n_1).bind fun x_1 =>
      (dom_up_l0 d_ K0_ k) x_1.Parent (wi (many + 1))
    else
      K0_ many
theorem dom_up_l0_ok {mL : Int} {Q : AExit → St → Prop} {d_ : TDoc} {K0_ : Int → Option Int} {k : Nat} {n_1 : Int} {many : Int} {o : Int} (h : dom_up_l0 d_ K0_ k n_1 many = some o)
    (hK0 : ∀ (many1 : Int), K0_ many1 = some o → ∀ s, Weak 0 s ⟨(upd (fun _ => none) 4 (some (I many1))), (fun _ => none), 0⟩ → Q (.exit 0) s)
    (hr : ∀ s, Ends a81.results 0 (dom_up_post o) .ret s → Q .ret s) :
    Sv Tryd.prog (GG mL) 0 (.loop a81_c0) Q ⟨(upd (upd (upd (fun _ => none) 1 (some (I n_1))) 2 (some (.c (.ref 0 2 0 0)))) 4 (some (I many))), (upd (fun _ => none) 0 (some (.cells 2 [[.ro false 6 (d_.Nodes.map e_TNode), cB d_.Quirks]]))), 1⟩ := by
  refine Sv.loop (I := fun k s => ∃ (n_1 : Int), ∃ (many : Int), dom_up_l0 d_ K0_ k n_1 many = some o ∧ s = ⟨(upd (upd (upd (fun _ => none) 1 (some (I n_1))) 2 (some (.c (.ref 0 2 0 0)))) 4 (some (I many))), (upd (fun _ => none) 0 (some (.cells 2 [[.ro false 6 (d_.Nodes.map e_TNode), cB d_.Quirks]]))), 1⟩) (fun k s hI => ?_) ⟨n_1, many, h, rfl⟩
  clear h
  clear many n_1
  obtain ⟨n_1, many, h, rfl⟩ := hI
  cases k with
  | zero => cases h
  | succ k =>
  rw [dom_up_l0] at h
  have hself : ∀ (n_1 : Int) (many : Int), (dom_up_l0 d_ K0_ k) n_1 many = some o → ∀ s, Weak 0 s ⟨(upd (upd (upd (fun _ => none) 1 (some (I n_1))) 2 (some (.c (.ref 0 2 0 0)))) 4 (some (I many))), (upd (fun _ => none) 0 (some (.cells 2 [[.ro false 6 (d_.Nodes.map e_TNode), cB d_.Quirks]]))), 1⟩ → (AThen (fun s' => ∃ s'' k', Weak 0 s' s'' ∧ k' < k + 1 ∧ (fun k s => ∃ (n_1 : Int), ∃ (many : Int), dom_up_l0 d_ K0_ k n_1 many = some o ∧ s = ⟨(upd (upd (upd (fun _ => none) 1 (some (I n_1))) 2 (some (.c (.ref 0 2 0 0)))) 4 (some (I many))), (upd (fun _ => none) 0 (some (.cells 2 [[.ro false 6 (d_.Nodes.map e_TNode), cB d_.Quirks]]))), 1⟩) k' s'') Q) .normal s := fun n_1 many h s hw => ⟨_, k, hw, Nat.lt_succ_self k, n_1, many, h, rfl⟩
  refine Sv.seq ?_
  refine Sv.seq ?_
  refine Sv.region ?_
  refine un (a1 (v := (.c (.ref 0 2 0 0))) rfl ?_)
  refine un (a1 (v := (.c (.ro false 6 (d_.Nodes.map e_TNode)))) rfl ?_)
  refine un (a1 rfl ?_)
  obtain ⟨x_, hx1, h⟩ := bnd h
  refine un (a1 (v := (.c (.rop [cI x_.Kind, .str x_.Name, .ro false 2 (x_.Attrs.map e_TAttr), .str x_.Text, cI x_.Parent, .ro false 1 (x_.Kids.map eI)]))) (s_iaddr (e := e_TNode) (xs := d_.Nodes) rfl rfl hx1) ?_)
  refine un (a1 (v := (.c (.rop [cI x_.Parent, .ro false 1 (x_.Kids.map eI)]))) rfl ?_)
  refine un (a1 (v := (I x_.Parent)) rfl ?_)
  refine un (a1 (v := (B (decide (0 ≤ x_.Parent)))) rfl ?_)
  refine un (a1 rfl ?_)
  refine gjoin 6 (d := 18) (v := (B ((decide (0 ≤ x_.Parent)) && (decide (many ≤ (d_.Nodes.length : Int)))))) (fun X hX => ?_) ?_
  · refine split2 (fun hc1 => ?_) (fun hc1 => ?_)
    · refine gt rfl (a1 rfl ?_)
      refine gt rfl (a1 (v := (.c (.ref 0 2 0 0))) rfl ?_)
      refine gt rfl (a1 (v := (.c (.ro false 6 (d_.Nodes.map e_TNode)))) rfl ?_)
      refine gt rfl (a1 (v := (I (d_.Nodes.length : Int))) (s_len (e := e_TNode) (xs := d_.Nodes) rfl) ?_)
      refine gt rfl (a1 (v := (B (decide (many ≤ (d_.Nodes.length : Int))))) rfl ?_)
      refine un (a1 (v := (B (decide (many ≤ (d_.Nodes.length : Int))))) rfl ?_)
      refine dnil ?_
      exact hX _ (.putEq (by rw [hc1]; rfl) (.skip _ _ (.skip _ _ (.skip _ _ (.skip _ _ (.skip _ _ (.putEq (by rw [hc1]) (.refl _)) rfl) rfl) rfl) rfl) rfl))
    · refine gs rfl rfl ?_
      refine gs rfl rfl ?_
      refine gs rfl rfl ?_
      refine gs rfl rfl ?_
      refine gs rfl rfl ?_
      refine un (a1 (v := (B false)) rfl ?_)
      refine dnil ?_
      exact hX _ (.putEq (by rw [hc1]; rfl) (.skip _ _ (.skip _ _ (.skip _ _ (.skip _ _ (.skip _ _ (.putEq (by rw [hc1]) (.refl _)) rfl) rfl) rfl) rfl) rfl))
  refine dnil ?_
  refine Sv.cond (b := ((decide (0 ≤ x_.Parent)) && (decide (many ≤ (d_.Nodes.length : Int))))) rfl (fun hc2 => ?_) (fun hc2 => ?_)
  · replace h := ifT hc2 h
    refine Sv.skip ?_
    refine Sv.seq ?_
    refine Sv.block ?_
    refine Sv.region ?_
    refine un (a1 rfl ?_)
    refine un (a1 (v := (I (wi (many + 1)))) rfl ?_)
    refine un (a1 rfl ?_)
    refine dnil ?_
    refine Sv.region ?_
    refine un (a1 (v := (.c (.ref 0 2 0 0))) rfl ?_)
    refine un (a1 (v := (.c (.ro false 6 (d_.Nodes.map e_TNode)))) rfl ?_)
    refine un (a1 rfl ?_)
    obtain ⟨x_1, hx2, h⟩ := bnd h
    refine un (a1 (v := (.c (.rop [cI x_1.Kind, .str x_1.Name, .ro false 2 (x_1.Attrs.map e_TAttr), .str x_1.Text, cI x_1.Parent, .ro false 1 (x_1.Kids.map eI)]))) (s_iaddr (e := e_TNode) (xs := d_.Nodes) rfl rfl hx2) ?_)
    refine un (a1 (v := (.c (.rop [cI x_1.Parent, .ro false 1 (x_1.Kids.map eI)]))) rfl ?_)
    refine un (a1 (v := (I x_1.Parent)) rfl ?_)
    refine un (a1 rfl ?_)
    refine dnil ?_
    exact hself x_1.Parent (wi (many + 1)) h _ (weak_canon [0] rfl (by decide) (by decide) (fun b h => absurd h (Nat.not_lt_zero _)) (.cons rfl (avAs_free rfl) (.cons rfl (.c (.ref rfl (by decide))) (.cons rfl (avAs_free rfl) .nil))) (.box (by decide) rfl (blkAs_cells (.cons (.same rfl) (.cons (.same rfl) .nil))) .nil))
  · replace h := ifF hc2 h
    refine Sv.exit ?_
    exact hK0 many h _ (weak_canon [] rfl (by decide) (by decide) (fun b h => absurd h (Nat.not_lt_zero _)) (.cons rfl (avAs_free rfl) .nil) .nil)
/-- clerestory/dom.up -/
noncomputable def dom_up (d_ : TDoc) (n_ : Int) : Option Int :=
  lim fun kk => dom_up_l0 d_ (fun (many1 : Int) => 
      some many1) kk n_ 0
theorem dom_up_ok {mL : Int} {d_ : TDoc} {n_ : Int} {r : Int} (h : dom_up d_ n_ = some r) : CPure Tryd.prog (GG mL) 81 [(.agg [.ro false 6 (d_.Nodes.map e_TNode), cB d_.Quirks]), (I n_)] (I r) := by
  refine acalls_of_sv hmix c81 (R := dom_up_post r) ?_
  unfold dom_up at h
  refine Sv.seq ?_
  refine Sv.region ?_
  refine un (a2v (v := (.c (.ref 0 2 0 0))) (h' := upd _ 0 (some (.cells 2 [[.ro false 6 (d_.Nodes.map e_TNode), cB d_.Quirks]]))) (n' := 1) rfl rfl (fun h => by cases h) ?_)
  refine un (a1 rfl ?_)
  refine dnil ?_
  refine Sv.seq ?_
  refine Sv.block ?_
  obtain ⟨kk, h⟩ := lim_some h
  refine Sv.weak (weak_canon [0] rfl (by decide) (by decide) (fun b h => absurd h (Nat.not_lt_zero _)) (.cons rfl (avAs_free rfl) (.cons rfl (.c (.ref rfl (by decide))) (.cons rfl (avAs_free rfl) .nil))) (.box (by decide) rfl (blkAs_cells (.cons (.same rfl) (.cons (.same rfl) .nil))) .nil)) (dom_up_l0_ok h ?_ (fun s hs => hs))
  · intro many1 h _ hw1
    refine Sv.weak hw1 ?_
    refine Sv.seq ?_
    refine Sv.region ?_
    refine un (a1 rfl ?_)
    refine un (a1 rfl ?_)
    refine dnil ?_
    refine Sv.ret ?_
    replace h := Option.some.inj h
    subst h
    exact ⟨_, .refl _, _, rfl, ⟨upd (fun _ => none) 0 (some (I many1)), (fun _ => none), 0⟩, (I many1), weak_canon [] rfl List.nodup_nil (Nat.le_refl _) (fun b h => absurd h (Nat.not_lt_zero _)) (.cons rfl (avAs_free rfl) .nil) .nil, rfl, rfl, rfl, rfl⟩
def a35_c0 : ACode := (.seq (.region [⟨(some 23), (.bin .lss (.tmp 22) (.tmp 21)), none⟩])
 (.seq (.cond (.tmp 23) .skip (.exit 1))
 (.seq (.block 2 (.seq (.region [⟨(some 24), (.mov (.tmp 22)), none⟩, ⟨(some 25), (.iaddr 6 (.tmp 20) (.tmp 22)), none⟩, ⟨(some 26), (.load true 6 (.tmp 25)), none⟩, ⟨(some 4), (.box (.const (.agg [(.val (.int .i64 0)), (.str []), (.ro true 2 []), (.str []), (.val (.int .i64 0)), (.ro true 1 [])]))), none⟩, ⟨(some 3), (.mov (.tmp 24)), none⟩, ⟨none, (.store 6 (.tmp 4) (.tmp 26)), none⟩])
 (.seq (.seq (.region [⟨(some 27), (.faddr 0 (.tmp 4)), none⟩, ⟨(some 28), (.load false 1 (.tmp 27)), none⟩, ⟨(some 29), (.bin .eql (.tmp 28) (.const (.c (.val (.int .i64 1))))), none⟩, ⟨(some 30), (.mov (.tmp 3)), none⟩, ⟨(some 31), (.bin .eql (.tmp 30) (.const (.c (.val (.int .i64 0))))), none⟩, ⟨(some 32), (.eqs true false [.b] (.tmp 29) (.tmp 31)), none⟩])
 (.cond (.tmp 32) (.seq (.region [⟨(some 2), (.mov (.const (.c (.val (.int .i64 3))))), none⟩])
 .ret) .skip))
 (.seq (.region [⟨(some 33), (.load true 6 (.tmp 4)), none⟩, ⟨(some 34), (.call 79 [(.tmp 33)]), none⟩, ⟨(some 5), (.mov (.tmp 34)), none⟩])
 (.seq (.region [⟨(some 35), (.mov (.tmp 5)), none⟩, ⟨(some 36), (.bin .neq (.tmp 35) (.const (.c (.val (.int .i64 0))))), none⟩])
 (.cond (.tmp 36) (.seq (.region [⟨(some 37), (.mov (.tmp 5)), none⟩, ⟨(some 2), (.mov (.tmp 37)), none⟩])
 .ret) .skip))))))
 (.region [⟨(some 38), (.bin .add (.tmp 22) (.const (.c (.val (.int .i64 1))))), none⟩, ⟨(some 22), (.mov (.tmp 38)), none⟩]))))
def a35_c1 : ACode := (.seq (.region [⟨(some 48), (.bin .lss (.tmp 47) (.tmp 46)), none⟩])
 (.seq (.cond (.tmp 48) .skip (.exit 3))
 (.seq (.block 4 (.seq (.region [⟨(some 49), (.mov (.tmp 47)), none⟩, ⟨(some 7), (.mov (.tmp 49)), none⟩])
 (.seq (.region [⟨(some 50), (.load true 2 (.tmp 1)), none⟩, ⟨(some 51), (.mov (.tmp 7)), none⟩, ⟨(some 52), (.call 81 [(.tmp 50), (.tmp 51)]), none⟩, ⟨(some 8), (.mov (.tmp 52)), none⟩])
 (.block 5 (.seq (.region [⟨(some 54), (.mov (.tmp 8)), none⟩, ⟨(some 55), (.faddr 0 (.tmp 1)), none⟩, ⟨(some 56), (.load false 1 (.tmp 55)), none⟩, ⟨(some 57), (.len (.tmp 56)), none⟩, ⟨(some 58), (.bin .gtr (.tmp 54) (.tmp 57)), none⟩, ⟨(some 53), (.mov (.tmp 58)), none⟩])
 (.cond (.tmp 53) (.seq (.region [⟨(some 2), (.mov (.const (.c (.val (.int .i64 8))))), none⟩])
 .ret) (.seq (.region [⟨(some 60), (.mov (.tmp 8)), none⟩, ⟨(some 61), (.bin .gtr (.tmp 60) (.const (.c (.val (.int .i64 40))))), none⟩, ⟨(some 59), (.mov (.tmp 61)), none⟩])
 (.cond (.tmp 59) (.seq (.region [⟨(some 2), (.mov (.const (.c (.val (.int .i64 2))))), none⟩])
 .ret) .skip))))))))
 (.region [⟨(some 62), (.bin .add (.tmp 47) (.const (.c (.val (.int .i64 1))))), none⟩, ⟨(some 47), (.mov (.tmp 62)), none⟩]))))
def a35 : AFunc := ⟨1, [(.tmp 2)], (.seq (.region [⟨(some 1), (.box (.tmp 0)), none⟩, ⟨(some 2), (.mov (.const (.c (.val (.int .i64 0))))), none⟩])
 (.seq (.block 0 (.seq (.region [⟨(some 10), (.faddr 0 (.tmp 1)), none⟩, ⟨(some 11), (.load false 1 (.tmp 10)), none⟩, ⟨(some 12), (.len (.tmp 11)), none⟩, ⟨(some 13), (.bin .gtr (.tmp 12) (.const (.c (.val (.int .i64 200))))), none⟩, ⟨(some 9), (.mov (.tmp 13)), none⟩])
 (.cond (.tmp 9) (.seq (.region [⟨(some 2), (.mov (.const (.c (.val (.int .i64 2))))), none⟩])
 .ret) (.seq (.region [⟨(some 15), (.faddr 0 (.tmp 1)), none⟩, ⟨(some 16), (.load false 1 (.tmp 15)), none⟩, ⟨(some 17), (.len (.tmp 16)), none⟩, ⟨(some 18), (.bin .eql (.tmp 17) (.const (.c (.val (.int .i64 0))))), none⟩, ⟨(some 14), (.mov (.tmp 18)), none⟩])
 (.cond (.tmp 14) (.seq (.region [⟨(some 2), (.mov (.const (.c (.val (.int .i64 3))))), none⟩])
 .ret) .skip)))))
 (.seq (.seq (.region [⟨(some 19), (.faddr 0 (.tmp 1)), none⟩, ⟨(some 20), (.load false 1 (.tmp 19)), none⟩, ⟨(some 21), (.len (.tmp 20)), none⟩, ⟨(some 22), (.mov (.const (.c (.val (.int .i64 0))))), none⟩])
 (.block 1 (.loop a35_c0)))
 (.seq (.seq (.region [⟨(some 39), (.load true 2 (.tmp 1)), none⟩, ⟨(some 40), (.call 80 [(.tmp 39)]), none⟩, ⟨(some 6), (.mov (.tmp 40)), none⟩])
 (.seq (.region [⟨(some 41), (.mov (.tmp 6)), none⟩, ⟨(some 42), (.bin .neq (.tmp 41) (.const (.c (.val (.int .i64 0))))), none⟩])
 (.cond (.tmp 42) (.seq (.region [⟨(some 43), (.mov (.tmp 6)), none⟩, ⟨(some 2), (.mov (.tmp 43)), none⟩])
 .ret) .skip)))
 (.seq (.seq (.region [⟨(some 44), (.faddr 0 (.tmp 1)), none⟩, ⟨(some 45), (.load false 1 (.tmp 44)), none⟩, ⟨(some 46), (.len (.tmp 45)), none⟩, ⟨(some 47), (.mov (.const (.c (.val (.int .i64 0))))), none⟩])
 (.block 3 (.loop a35_c1)))
 (.seq (.region [⟨(some 2), (.mov (.const (.c (.val (.int .i64 0))))), none⟩])
 .ret))))))⟩
set_option maxRecDepth 100000 in
theorem c35 : compFunc Tryd.prog 35 = some a35 := by kernel_rfl
def dom_Check_post (r : Int) : AV → Heap → Nat → Prop := fun v h' n' => v = (I r) ∧ (h' = (fun _ => none)) ∧ n' = 0
noncomputable def dom_Check_l0 (d_ : TDoc) (K1_ : Unit → Option Int) : Nat → Int → Option Int
  | 0, _ => none
  | k + 1, v22 =>
    if decide (v22 < (d_.Nodes.length : Int)) then
      (at? d_.Nodes v22).bind fun x_ =>
      if (!((decide (x_.Kind = 1) == decide (v22 = 0)) && true)) then
        some 3
      else
        (dom_one x_).bind fun r_ =>
        if (!decide (r_ = 0)) then
          some r_
        else
          (dom_Check_l0 d_ K1_ k) (wi (v22 + 1))
    else
      K1_ ()
theorem dom_Check_l0_ok {mL : Int} {Q : AExit → St → Prop} {d_ : TDoc} {K1_ : Unit → Option Int} {k : Nat} {v22 : Int} {o : Int} (h : dom_Check_l0 d_ K1_ k v22 = some o)
    (hK1 : ∀ (_ : Unit), K1_ () = some o → ∀ s, Weak 0 s ⟨(upd (fun _ => none) 1 (some (.c (.ref 0 2 0 0)))), (upd (fun _ => none) 0 (some (.cells 2 [[.ro false 6 (d_.Nodes.map e_TNode), cB d_.Quirks]]))), 1⟩ → Q (.exit 1) s)
    (hr : ∀ s, Ends a35.results 0 (dom_Check_post o) .ret s → Q .ret s) :
    Sv Tryd.prog (GG mL) 0 (.loop a35_c0) Q ⟨(upd (upd (upd (upd (fun _ => none) 1 (some (.c (.ref 0 2 0 0)))) 20 (some (.c (.ro false 6 (d_.Nodes.map e_TNode))))) 21 (some (I (d_.Nodes.length : Int)))) 22 (some (I v22))), (upd (fun _ => none) 0 (some (.cells 2 [[.ro false 6 (d_.Nodes.map e_TNode), cB d_.Quirks]]))), 1⟩ := by
  refine Sv.loop (I := fun k s => ∃ (v22 : Int), dom_Check_l0 d_ K1_ k v22 = some o ∧ s = ⟨(upd (upd (upd (upd (fun _ => none) 1 (some (.c (.ref 0 2 0 0)))) 20 (some (.c (.ro false 6 (d_.Nodes.map e_TNode))))) 21 (some (I (d_.Nodes.length : Int)))) 22 (some (I v22))), (upd (fun _ => none) 0 (some (.cells 2 [[.ro false 6 (d_.Nodes.map e_TNode), cB d_.Quirks]]))), 1⟩) (fun k s hI => ?_) ⟨v22, h, rfl⟩
  clear h
  clear v22
  obtain ⟨v22, h, rfl⟩ := hI
  cases k with
  | zero => cases h
  | succ k =>
  rw [dom_Check_l0] at h
  have hself : ∀ (v22 : Int), (dom_Check_l0 d_ K1_ k) v22 = some o → ∀ s, Weak 0 s ⟨(upd (upd (upd (upd (fun _ => none) 1 (some (.c (.ref 0 2 0 0)))) 20 (some (.c (.ro false 6 (d_.Nodes.map e_TNode))))) 21 (some (I (d_.Nodes.length : Int)))) 22 (some (I v22))), (upd (fun _ => none) 0 (some (.cells 2 [[.ro false 6 (d_.Nodes.map e_TNode), cB d_.Quirks]]))), 1⟩ → (AThen (fun s' => ∃ s'' k', Weak 0 s' s'' ∧ k' < k + 1 ∧ (fun k s => ∃ (v22 : Int), dom_Check_l0 d_ K1_ k v22 = some o ∧ s = ⟨(upd (upd (upd (upd (fun _ => none) 1 (some (.c (.ref 0 2 0 0)))) 20 (some (.c (.ro false 6 (d_.Nodes.map e_TNode))))) 21 (some (I (d_.Nodes.length : Int)))) 22 (some (I v22))), (upd (fun _ => none) 0 (some (.cells 2 [[.ro false 6 (d_.Nodes.map e_TNode), cB d_.Quirks]]))), 1⟩) k' s'') Q) .normal s := fun v22 h s hw => ⟨_, k, hw, Nat.lt_succ_self k, v22, h, rfl⟩
  refine Sv.seq ?_
  refine Sv.region ?_
  refine un (a1 (v := (B (decide (v22 < (d_.Nodes.length : Int))))) rfl ?_)
  refine dnil ?_
  refine Sv.seq ?_
  refine Sv.cond (b := decide (v22 < (d_.Nodes.length : Int))) rfl (fun hc3 => ?_) (fun hc3 => ?_)
  · replace h := ifT hc3 h
    refine Sv.skip ?_
    refine Sv.seq ?_
    refine Sv.block ?_
    refine Sv.seq ?_
    refine Sv.region ?_
    refine un (a1 rfl ?_)
    obtain ⟨x_, hx1, h⟩ := bnd h
    refine un (a1 (v := (.c (.rop [cI x_.Kind, .str x_.Name, .ro false 2 (x_.Attrs.map e_TAttr), .str x_.Text, cI x_.Parent, .ro false 1 (x_.Kids.map eI)]))) (s_iaddr (e := e_TNode) (xs := d_.Nodes) rfl rfl hx1) ?_)
    refine un (a1 (v := (.agg [cI x_.Kind, .str x_.Name, .ro false 2 (x_.Attrs.map e_TAttr), .str x_.Text, cI x_.Parent, .ro false 1 (x_.Kids.map eI)])) rfl ?_)
    refine un (a2v (v := (.c (.ref 1 6 0 0))) (h' := upd _ 1 (some (.cells 6 [[cI 0, .str [], .ro true 2 [], .str [], cI 0, .ro true 1 []]]))) (n' := 2) rfl rfl (fun h => by cases h) ?_)
    refine un (a1 rfl ?_)
    refine un (a2n (h' := upd _ 1 (some (.cells 6 [[cI x_.Kind, .str x_.Name, .ro false 2 (x_.Attrs.map e_TAttr), .str x_.Text, cI x_.Parent, .ro false 1 (x_.Kids.map eI)]]))) (n' := 2) rfl rfl (fun h => by cases h) ?_)
    refine dnil ?_
    refine Sv.seq ?_
    refine Sv.seq ?_
    refine Sv.region ?_
    refine un (a1 (v := (.c (.ref 1 6 0 0))) rfl ?_)
    refine un (a1 (v := (I x_.Kind)) rfl ?_)
    refine un (a1 (v := (B (decide (x_.Kind = 1)))) rfl ?_)
    refine un (a1 rfl ?_)
    refine un (a1 (v := (B (decide (v22 = 0)))) rfl ?_)
    refine un (a1 (v := (B (!((decide (x_.Kind = 1) == decide (v22 = 0)) && true)))) rfl ?_)
    refine dnil ?_
    refine Sv.cond (b := (!((decide (x_.Kind = 1) == decide (v22 = 0)) && true))) rfl (fun hc4 => ?_) (fun hc4 => ?_)
    · replace h := ifT hc4 h
      refine Sv.seq ?_
      refine Sv.region ?_
      refine un (a1 rfl ?_)
      refine dnil ?_
      refine Sv.ret ?_
      replace h := Option.some.inj h
      subst h
      exact hr _ ⟨_, .refl _, _, rfl, ⟨upd (fun _ => none) 0 (some (I 3)), (fun _ => none), 0⟩, (I 3), weak_canon [] rfl List.nodup_nil (Nat.le_refl _) (fun b h => absurd h (Nat.not_lt_zero _)) (.cons rfl (avAs_free rfl) .nil) .nil, rfl, rfl, rfl, rfl⟩
    · replace h := ifF hc4 h
      refine Sv.skip ?_
      refine Sv.seq ?_
      refine Sv.region ?_
      refine un (a1 (v := (.agg [cI x_.Kind, .str x_.Name, .ro false 2 (x_.Attrs.map e_TAttr), .str x_.Text, cI x_.Parent, .ro false 1 (x_.Kids.map eI)])) rfl ?_)
      obtain ⟨r_, hr1, h⟩ := bnd h
      refine un (ac_pure (dom_one_ok hr1) rfl rfl rfl ?_)
      refine un (a1 rfl ?_)
      refine dnil ?_
      refine Sv.seq ?_
      refine Sv.region ?_
      refine un (a1 rfl ?_)
      refine un (a1 (v := (B (!decide (r_ = 0)))) rfl ?_)
      refine dnil ?_
      refine Sv.cond (b := (!decide (r_ = 0))) rfl (fun hc5 => ?_) (fun hc5 => ?_)
      · replace h := ifT hc5 h
        refine Sv.seq ?_
        refine Sv.region ?_
        refine un (a1 rfl ?_)
        refine un (a1 rfl ?_)
        refine dnil ?_
        refine Sv.ret ?_
        replace h := Option.some.inj h
        subst h
        exact hr _ ⟨_, .refl _, _, rfl, ⟨upd (fun _ => none) 0 (some (I r_)), (fun _ => none), 0⟩, (I r_), weak_canon [] rfl List.nodup_nil (Nat.le_refl _) (fun b h => absurd h (Nat.not_lt_zero _)) (.cons rfl (avAs_free rfl) .nil) .nil, rfl, rfl, rfl, rfl⟩
      · replace h := ifF hc5 h
        refine Sv.skip ?_
        refine Sv.region ?_
        refine un (a1 (v := (I (wi (v22 + 1)))) rfl ?_)
        refine un (a1 rfl ?_)
        refine dnil ?_
        exact hself (wi (v22 + 1)) h _ (weak_canon [0] rfl (by decide) (by decide) (fun b h => absurd h (Nat.not_lt_zero _)) (.cons rfl (avAs_free rfl) (.cons rfl (avAs_free rfl) (.cons rfl (avAs_free rfl) (.cons rfl (.c (.ref rfl (by decide))) .nil)))) (.box (by decide) rfl (blkAs_cells (.cons (.same rfl) (.cons (.same rfl) .nil))) .nil))
  · replace h := ifF hc3 h
    refine Sv.exit ?_
    exact hK1 () h _ (weak_canon [0] rfl (by decide) (by decide) (fun b h => absurd h (Nat.not_lt_zero _)) (.cons rfl (.c (.ref rfl (by decide))) .nil) (.box (by decide) rfl (blkAs_cells (.cons (.same rfl) (.cons (.same rfl) .nil))) .nil))
noncomputable def dom_Check_l1 (d_ : TDoc) (K3_ : Unit → Option Int) : Nat → Int → Option Int
  | 0, _ => none
  | k + 1, v47 =>
    if decide (v47 < (d_.Nodes.length : Int)) then
      (dom_up d_ v47).bind fun r_2 =>
      if decide ((d_.Nodes.length : Int) < r_2) then
        some 8
      else
        if decide (40 < r_2) then
          some 2
        else
          (dom_Check_l1 d_ K3_ k) (wi (v47 + 1))
    else
      K3_ ()
theorem dom_Check_l1_ok {mL : Int} {Q : AExit → St → Prop} {d_ : TDoc} {K3_ : Unit → Option Int} {k : Nat} {v47 : Int} {o : Int} (h : dom_Check_l1 d_ K3_ k v47 = some o)
    (hK3 : ∀ (_ : Unit), K3_ () = some o → ∀ s, Weak 0 s ⟨(fun _ => none), (fun _ => none), 0⟩ → Q (.exit 3) s)
    (hr : ∀ s, Ends a35.results 0 (dom_Check_post o) .ret s → Q .ret s) :
    Sv Tryd.prog (GG mL) 0 (.loop a35_c1) Q ⟨(upd (upd (upd (fun _ => none) 1 (some (.c (.ref 0 2 0 0)))) 46 (some (I (d_.Nodes.length : Int)))) 47 (some (I v47))), (upd (fun _ => none) 0 (some (.cells 2 [[.ro false 6 (d_.Nodes.map e_TNode), cB d_.Quirks]]))), 1⟩ := by
  refine Sv.loop (I := fun k s => ∃ (v47 : Int), dom_Check_l1 d_ K3_ k v47 = some o ∧ s = ⟨(upd (upd (upd (fun _ => none) 1 (some (.c (.ref 0 2 0 0)))) 46 (some (I (d_.Nodes.length : Int)))) 47 (some (I v47))), (upd (fun _ => none) 0 (some (.cells 2 [[.ro false 6 (d_.Nodes.map e_TNode), cB d_.Quirks]]))), 1⟩) (fun k s hI => ?_) ⟨v47, h, rfl⟩
  clear h
  clear v47
  obtain ⟨v47, h, rfl⟩ := hI
  cases k with
  | zero => cases h
  | succ k =>
  rw [dom_Check_l1] at h
  have hself : ∀ (v47 : Int), (dom_Check_l1 d_ K3_ k) v47 = some o → ∀ s, Weak 0 s ⟨(upd (upd (upd (fun _ => none) 1 (some (.c (.ref 0 2 0 0)))) 46 (some (I (d_.Nodes.length : Int)))) 47 (some (I v47))), (upd (fun _ => none) 0 (some (.cells 2 [[.ro false 6 (d_.Nodes.map e_TNode), cB d_.Quirks]]))), 1⟩ → (AThen (fun s' => ∃ s'' k', Weak 0 s' s'' ∧ k' < k + 1 ∧ (fun k s => ∃ (v47 : Int), dom_Check_l1 d_ K3_ k v47 = some o ∧ s = ⟨(upd (upd (upd (fun _ => none) 1 (some (.c (.ref 0 2 0 0)))) 46 (some (I (d_.Nodes.length : Int)))) 47 (some (I v47))), (upd (fun _ => none) 0 (some (.cells 2 [[.ro false 6 (d_.Nodes.map e_TNode), cB d_.Quirks]]))), 1⟩) k' s'') Q) .normal s := fun v47 h s hw => ⟨_, k, hw, Nat.lt_succ_self k, v47, h, rfl⟩
  refine Sv.seq ?_
  refine Sv.region ?_
  refine un (a1 (v := (B (decide (v47 < (d_.Nodes.length : Int))))) rfl ?_)
  refine dnil ?_
  refine Sv.seq ?_
  refine Sv.cond (b := decide (v47 < (d_.Nodes.length : Int))) rfl (fun hc7 => ?_) (fun hc7 => ?_)
  · replace h := ifT hc7 h
    refine Sv.skip ?_
    refine Sv.seq ?_
    refine Sv.block ?_
    refine Sv.seq ?_
    refine Sv.region ?_
    refine un (a1 rfl ?_)
    refine un (a1 rfl ?_)
    refine dnil ?_
    refine Sv.seq ?_
    refine Sv.region ?_
    refine un (a1 (v := (.agg [.ro false 6 (d_.Nodes.map e_TNode), cB d_.Quirks])) rfl ?_)
    refine un (a1 rfl ?_)
    obtain ⟨r_2, hr3, h⟩ := bnd h
    refine un (ac_pure (dom_up_ok hr3) rfl rfl rfl ?_)
    refine un (a1 rfl ?_)
    refine dnil ?_
    refine Sv.block ?_
    refine Sv.seq ?_
    refine Sv.region ?_
    refine un (a1 rfl ?_)
    refine un (a1 (v := (.c (.ref 0 2 0 0))) rfl ?_)
    refine un (a1 (v := (.c (.ro false 6 (d_.Nodes.map e_TNode)))) rfl ?_)
    refine un (a1 (v := (I (d_.Nodes.length : Int))) (s_len (e := e_TNode) (xs := d_.Nodes) rfl) ?_)
    refine un (a1 (v := (B (decide ((d_.Nodes.length : Int) < r_2)))) rfl ?_)
    refine un (a1 rfl ?_)
    refine dnil ?_
    refine Sv.cond (b := decide ((d_.Nodes.length : Int) < r_2)) rfl (fun hc8 => ?_) (fun hc8 => ?_)
    · replace h := ifT hc8 h
      refine Sv.seq ?_
      refine Sv.region ?_
      refine un (a1 rfl ?_)
      refine dnil ?_
      refine Sv.ret ?_
      replace h := Option.some.inj h
      subst h
      exact hr _ ⟨_, .refl _, _, rfl, ⟨upd (fun _ => none) 0 (some (I 8)), (fun _ => none), 0⟩, (I 8), weak_canon [] rfl List.nodup_nil (Nat.le_refl _) (fun b h => absurd h (Nat.not_lt_zero _)) (.cons rfl (avAs_free rfl) .nil) .nil, rfl, rfl, rfl, rfl⟩
    · replace h := ifF hc8 h
      refine Sv.seq ?_
      refine Sv.region ?_
      refine un (a1 rfl ?_)
      refine un (a1 (v := (B (decide (40 < r_2)))) rfl ?_)
      refine un (a1 rfl ?_)
      refine dnil ?_
      refine Sv.cond (b := decide (40 < r_2)) rfl (fun hc9 => ?_) (fun hc9 => ?_)
      · replace h := ifT hc9 h
        refine Sv.seq ?_
        refine Sv.region ?_
        refine un (a1 rfl ?_)
        refine dnil ?_
        refine Sv.ret ?_
        replace h := Option.some.inj h
        subst h
        exact hr _ ⟨_, .refl _, _, rfl, ⟨upd (fun _ => none) 0 (some (I 2)), (fun _ => none), 0⟩, (I 2), weak_canon [] rfl List.nodup_nil (Nat.le_refl _) (fun b h => absurd h (Nat.not_lt_zero _)) (.cons rfl (avAs_free rfl) .nil) .nil, rfl, rfl, rfl, rfl⟩
      · replace h := ifF hc9 h
        refine Sv.skip ?_
        refine Sv.region ?_
        refine un (a1 (v := (I (wi (v47 + 1)))) rfl ?_)
        refine un (a1 rfl ?_)
        refine dnil ?_
        exact hself (wi (v47 + 1)) h _ (weak_canon [0] rfl (by decide) (by decide) (fun b h => absurd h (Nat.not_lt_zero _)) (.cons rfl (avAs_free rfl) (.cons rfl (avAs_free rfl) (.cons rfl (.c (.ref rfl (by decide))) .nil))) (.box (by decide) rfl (blkAs_cells (.cons (.same rfl) (.cons (.same rfl) .nil))) .nil))
  · replace h := ifF hc7 h
    refine Sv.exit ?_
    exact hK3 () h _ (weak_canon [] rfl (by decide) (by decide) (fun b h => absurd h (Nat.not_lt_zero _)) .nil .nil)
/-- clerestory/dom.Check -/
noncomputable def dom_Check (d_ : TDoc) : Option Int :=
  if decide (200 < (d_.Nodes.length : Int)) then
    some 2
  else
    if decide ((d_.Nodes.length : Int) = 0) then
      some 3
    else
      lim fun kk1 => dom_Check_l0 d_ (fun (_ : Unit) => 
          (dom_kids d_).bind fun r_1 =>
          if (!decide (r_1 = 0)) then
            some r_1
          else
            lim fun kk => dom_Check_l1 d_ (fun (_ : Unit) => 
                some 0) kk 0) kk1 0
theorem dom_Check_ok {mL : Int} {d_ : TDoc} {r : Int} (h : dom_Check d_ = some r) : CPure Tryd.prog (GG mL) 35 [(.agg [.ro false 6 (d_.Nodes.map e_TNode), cB d_.Quirks])] (I r) := by
  refine acalls_of_sv hmix c35 (R := dom_Check_post r) ?_
  unfold dom_Check at h
  refine Sv.seq ?_
  refine Sv.region ?_
  refine un (a2v (v := (.c (.ref 0 2 0 0))) (h' := upd _ 0 (some (.cells 2 [[.ro false 6 (d_.Nodes.map e_TNode), cB d_.Quirks]]))) (n' := 1) rfl rfl (fun h => by cases h) ?_)
  refine un (a1 rfl ?_)
  refine dnil ?_
  refine Sv.seq ?_
  refine Sv.block ?_
  refine Sv.seq ?_
  refine Sv.region ?_
  refine un (a1 (v := (.c (.ref 0 2 0 0))) rfl ?_)
  refine un (a1 (v := (.c (.ro false 6 (d_.Nodes.map e_TNode)))) rfl ?_)
  refine un (a1 (v := (I (d_.Nodes.length : Int))) (s_len (e := e_TNode) (xs := d_.Nodes) rfl) ?_)
  refine un (a1 (v := (B (decide (200 < (d_.Nodes.length : Int))))) rfl ?_)
  refine un (a1 rfl ?_)
  refine dnil ?_
  refine Sv.cond (b := decide (200 < (d_.Nodes.length : Int))) rfl (fun hc1 => ?_) (fun hc1 => ?_)
  · replace h := ifT hc1 h
    refine Sv.seq ?_
    refine Sv.region ?_
    refine un (a1 rfl ?_)
    refine dnil ?_
    refine Sv.ret ?_
    replace h := Option.some.inj h
    subst h
    exact ⟨_, .refl _, _, rfl, ⟨upd (fun _ => none) 0 (some (I 2)), (fun _ => none), 0⟩, (I 2), weak_canon [] rfl List.nodup_nil (Nat.le_refl _) (fun b h => absurd h (Nat.not_lt_zero _)) (.cons rfl (avAs_free rfl) .nil) .nil, rfl, rfl, rfl, rfl⟩
  · replace h := ifF hc1 h
    refine Sv.seq ?_
    refine Sv.region ?_
    refine un (a1 (v := (.c (.ref 0 2 0 0))) rfl ?_)
    refine un (a1 (v := (.c (.ro false 6 (d_.Nodes.map e_TNode)))) rfl ?_)
    refine un (a1 (v := (I (d_.Nodes.length : Int))) (s_len (e := e_TNode) (xs := d_.Nodes) rfl) ?_)
    refine un (a1 (v := (B (decide ((d_.Nodes.length : Int) = 0)))) rfl ?_)
    refine un (a1 rfl ?_)
    refine dnil ?_
    refine Sv.cond (b := decide ((d_.Nodes.length : Int) = 0)) rfl (fun hc2 => ?_) (fun hc2 => ?_)
    · replace h := ifT hc2 h
      refine Sv.seq ?_
      refine Sv.region ?_
      refine un (a1 rfl ?_)
      refine dnil ?_
      refine Sv.ret ?_
      replace h := Option.some.inj h
      subst h
      exact ⟨_, .refl _, _, rfl, ⟨upd (fun _ => none) 0 (some (I 3)), (fun _ => none), 0⟩, (I 3), weak_canon [] rfl List.nodup_nil (Nat.le_refl _) (fun b h => absurd h (Nat.not_lt_zero _)) (.cons rfl (avAs_free rfl) .nil) .nil, rfl, rfl, rfl, rfl⟩
    · replace h := ifF hc2 h
      refine Sv.skip ?_
      refine Sv.seq ?_
      refine Sv.seq ?_
      refine Sv.region ?_
      refine un (a1 (v := (.c (.ref 0 2 0 0))) rfl ?_)
      refine un (a1 (v := (.c (.ro false 6 (d_.Nodes.map e_TNode)))) rfl ?_)
      refine un (a1 (v := (I (d_.Nodes.length : Int))) (s_len (e := e_TNode) (xs := d_.Nodes) rfl) ?_)
      refine un (a1 rfl ?_)
      refine dnil ?_
      refine Sv.block ?_
      obtain ⟨kk1, h⟩ := lim_some h
      refine Sv.weak (weak_canon [0] rfl (by decide) (by decide) (fun b h => absurd h (Nat.not_lt_zero _)) (.cons rfl (avAs_free rfl) (.cons rfl (avAs_free rfl) (.cons rfl (avAs_free rfl) (.cons rfl (.c (.ref rfl (by decide))) .nil)))) (.box (by decide) rfl (blkAs_cells (.cons (.same rfl) (.cons (.same rfl) .nil))) .nil)) (dom_Check_l0_ok h ?_ (fun s hs => hs))
      · intro _ h _ hw1
        refine Sv.weak hw1 ?_
        refine Sv.seq ?_
        refine Sv.seq ?_
        refine Sv.region ?_
        refine un (a1 (v := (.agg [.ro false 6 (d_.Nodes.map e_TNode), cB d_.Quirks])) rfl ?_)
        obtain ⟨r_1, hr2, h⟩ := bnd h
        refine un (ac_pure (dom_kids_ok hr2) rfl rfl rfl ?_)
        refine un (a1 rfl ?_)
        refine dnil ?_
        refine Sv.seq ?_
        refine Sv.region ?_
        refine un (a1 rfl ?_)
        refine un (a1 (v := (B (!decide (r_1 = 0)))) rfl ?_)
        refine dnil ?_
        refine Sv.cond (b := (!decide (r_1 = 0))) rfl (fun hc6 => ?_) (fun hc6 => ?_)
        · replace h := ifT hc6 h
          refine Sv.seq ?_
          refine Sv.region ?_
          refine un (a1 rfl ?_)
          refine un (a1 rfl ?_)
          refine dnil ?_
          refine Sv.ret ?_
          replace h := Option.some.inj h
          subst h
          exact ⟨_, .refl _, _, rfl, ⟨upd (fun _ => none) 0 (some (I r_1)), (fun _ => none), 0⟩, (I r_1), weak_canon [] rfl List.nodup_nil (Nat.le_refl _) (fun b h => absurd h (Nat.not_lt_zero _)) (.cons rfl (avAs_free rfl) .nil) .nil, rfl, rfl, rfl, rfl⟩
        · replace h := ifF hc6 h
          refine Sv.skip ?_
          refine Sv.seq ?_
          refine Sv.seq ?_
          refine Sv.region ?_
          refine un (a1 (v := (.c (.ref 0 2 0 0))) rfl ?_)
          refine un (a1 (v := (.c (.ro false 6 (d_.Nodes.map e_TNode)))) rfl ?_)
          refine un (a1 (v := (I (d_.Nodes.length : Int))) (s_len (e := e_TNode) (xs := d_.Nodes) rfl) ?_)
          refine un (a1 rfl ?_)
          refine dnil ?_
          refine Sv.block ?_
          obtain ⟨kk, h⟩ := lim_some h
          refine Sv.weak (weak_canon [0] rfl (by decide) (by decide) (fun b h => absurd h (Nat.not_lt_zero _)) (.cons rfl (avAs_free rfl) (.cons rfl (avAs_free rfl) (.cons rfl (.c (.ref rfl (by decide))) .nil))) (.box (by decide) rfl (blkAs_cells (.cons (.same rfl) (.cons (.same rfl) .nil))) .nil)) (dom_Check_l1_ok h ?_ (fun s hs => hs))
          · intro _ h _ hw2
            refine Sv.weak hw2 ?_
            refine Sv.seq ?_
            refine Sv.region ?_
            refine un (a1 rfl ?_)
            refine dnil ?_
            refine Sv.ret ?_
            replace h := Option.some.inj h
            subst h
            exact ⟨_, .refl _, _, rfl, ⟨upd (fun _ => none) 0 (some (I 0)), (fun _ => none), 0⟩, (I 0), weak_canon [] rfl List.nodup_nil (Nat.le_refl _) (fun b h => absurd h (Nat.not_lt_zero _)) (.cons rfl (avAs_free rfl) .nil) .nil, rfl, rfl, rfl, rfl⟩
def a82 : AFunc := ⟨0, [(.tmp 0)], (.seq (.region [⟨(some 0), (.mov (.const (.c (.ro true 1 [])))), none⟩])
 (.seq (.region [⟨(some 1), (.bslice 1 [(.str [])] 59 [(0, (.const (.c (.str [107])))), (1, (.const (.c (.str [107])))), (2, (.const (.c (.str [107])))), (3, (.const (.c (.str [107])))), (4, (.const (.c (.str [107])))), (5, (.const (.c (.str [108, 112, 97, 48])))), (6, (.const (.c (.str [108, 112, 97, 48])))), (7, (.const (.c (.str [108, 112, 97, 48])))), (8, (.const (.c (.str [108, 112, 97, 48])))), (9, (.const (.c (.str [108, 112, 97, 48])))), (10, (.const (.c (.str [108, 112, 97, 48])))), (11, (.const (.c (.str [108, 112, 97])))), (12, (.const (.c (.str [108, 112, 97])))), (13, (.const (.c (.str [108, 112, 97])))), (14, (.const (.c (.str [108, 112, 97])))), (15, (.const (.c (.str [108, 112, 48])))), (16, (.const (.c (.str [108, 112, 48])))), (17, (.const (.c (.str [108, 112, 48])))), (18, (.const (.c (.str [108, 112, 48])))), (19, (.const (.c (.str [108, 48])))), (20, (.const (.c (.str [108, 48])))), (21, (.const (.c (.str [108, 48])))), (22, (.const (.c (.str [108, 48])))), (23, (.const (.c (.str [99])))), (24, (.const (.c (.str [99])))), (25, (.const (.c (.str [99])))), (26, (.const (.c (.str [99])))), (27, (.const (.c (.str [108, 112, 97])))), (28, (.const (.c (.str [108, 112, 97])))), (29, (.const (.c (.str [108, 112, 97])))), (30, (.const (.c (.str [108, 112, 97])))), (31, (.const (.c (.str [110, 97])))), (32, (.const (.c (.str [107])))), (33, (.const (.c (.str [107])))), (34, (.const (.c (.str [110, 48])))), (35, (.const (.c (.str [99])))), (36, (.const (.c (.str [99])))), (37, (.const (.c (.str [108, 48])))), (38, (.const (.c (.str [108, 110, 97, 48])))), (39, (.const (.c (.str [107])))), (40, (.const (.c (.str [108, 112])))), (41, (.const (.c (.str [107])))), (42, (.const (.c (.str [107, 108])))), (43, (.const (.c (.str [107])))), (44, (.const (.c (.str [108, 97])))), (45, (.const (.c (.str [107])))), (46, (.const (.c (.str [107])))), (47, (.const (.c (.str [107])))), (48, (.const (.c (.str [107])))), (49, (.const (.c (.str [107, 97])))), (50, (.const (.c (.str [110, 48])))), (51, (.const (.c (.str [110, 48])))), (52, (.const (.c (.str [108, 112, 97, 48])))), (53, (.const (.c (.str [110])))), (54, (.const (.c (.str [108, 48])))), (55, (.const (.c (.str [107])))), (56, (.const (.c (.str [108, 48])))), (57, (.const (.c (.str [107])))), (58, (.const (.c (.str [107]))))]), none⟩, ⟨(some 0), (.mov (.tmp 1)), none⟩])
 .ret))⟩
set_option maxRecDepth 100000 in
theorem c82 : compFunc Tryd.prog 82 = some a82 := by kernel_rfl
def clerestoryref2_PropKinds_post (r : (List (List UInt8))) : AV → Heap → Nat → Prop := fun v h' n' => ∃ z0 : Bool, (z0 = true → r = []) ∧ v = (lstV z0 0 1 r.length) ∧ (h' = (upd (fun _ => none) 0 (lstB z0 1 (r.map eStr)))) ∧ n' = 1
def clerestoryref2_PropKinds_t0 : List (List UInt8) := [[107], [107], [107], [107], [107], [108, 112, 97, 48], [108, 112, 97, 48], [108, 112, 97, 48], [108, 112, 97, 48], [108, 112, 97, 48], [108, 112, 97, 48], [108, 112, 97], [108, 112, 97], [108, 112, 97], [108, 112, 97], [108, 112, 48], [108, 112, 48], [108, 112, 48], [108, 112, 48], [108, 48], [108, 48], [108, 48], [108, 48], [99], [99], [99], [99], [108, 112, 97], [108, 112, 97], [108, 112, 97], [108, 112, 97], [110, 97], [107], [107], [110, 48], [99], [99], [108, 48], [108, 110, 97, 48], [107], [108, 112], [107], [107, 108], [107], [108, 97], [107], [107], [107], [107], [107, 97], [110, 48], [110, 48], [108, 112, 97, 48], [110], [108, 48], [107], [108, 48], [107], [107]]
/-- clerestory/clerestoryref2.PropKinds -/
noncomputable def clerestoryref2_PropKinds : Option (List (List UInt8)) :=
  some clerestoryref2_PropKinds_t0
theorem clerestoryref2_PropKinds_ok {mL : Int} {r : (List (List UInt8))} (h : clerestoryref2_PropKinds = some r) : ACalls Tryd.prog (GG mL) 82 [] (fun _ => none) 0 (clerestoryref2_PropKinds_post r) := by
  refine acalls_of_sv hmix c82 (R := clerestoryref2_PropKinds_post r) ?_
  unfold clerestoryref2_PropKinds at h
  refine Sv.seq ?_
  refine Sv.region ?_
  refine un (a1 rfl ?_)
  refine dnil ?_
  refine Sv.seq ?_
  refine Sv.region ?_
  refine un (a2v (v := (lstV false 0 1 clerestoryref2_PropKinds_t0.length)) (h' := upd _ 0 (lstB false 1 (clerestoryref2_PropKinds_t0.map eStr))) (n' := 1) rfl rfl (fun h => by cases h) ?_)
  refine un (a1 rfl ?_)
  refine dnil ?_
  refine Sv.ret ?_
  replace h := Option.some.inj h
  subst h
  exact ⟨_, .refl _, _, rfl, ⟨upd (fun _ => none) 0 (some (lstV false 0 1 clerestoryref2_PropKinds_t0.length)), (upd (fun _ => none) 0 (lstB false 1 (clerestoryref2_PropKinds_t0.map eStr))), 1⟩, (lstV false 0 1 clerestoryref2_PropKinds_t0.length), weak_canon2 [0] [0] (by decide) (by decide) (fun b h => absurd h (Nat.not_lt_zero _)) (.cons (by decide) .nil) (.cons rfl (.c (lstC_ren rfl (by decide))) .nil) (.row (by decide) rfl (fr_map fun _ => rfl) .nil), rfl, false, (fun h => by cases h), rfl, rfl, rfl⟩
def a83_c0 : ACode := (.seq (.seq (.region [⟨(some 6), (.mov (.tmp 5)), none⟩, ⟨(some 7), (.mov (.tmp 0)), none⟩, ⟨(some 8), (.lenS (.tmp 7)), none⟩, ⟨(some 9), (.bin .lss (.tmp 6) (.tmp 8)), none⟩])
 (.cond (.tmp 9) .skip (.exit 0)))
 (.seq (.block 1 (.seq (.region [⟨(some 12), (.mov (.tmp 0)), none⟩, ⟨(some 13), (.mov (.tmp 5)), none⟩, ⟨(some 14), (.idxS (.tmp 12) (.tmp 13)), none⟩, ⟨(some 15), (.mov (.tmp 1)), none⟩, ⟨(some 16), (.bin .eql (.tmp 14) (.tmp 15)), none⟩])
 (.cond (.tmp 16) (.seq (.region [⟨(some 4), (.mov (.const (.c (.val (.bool true))))), none⟩])
 .ret) .skip)))
 (.region [⟨(some 10), (.mov (.tmp 5)), none⟩, ⟨(some 11), (.bin .add (.tmp 10) (.const (.c (.val (.int .i64 1))))), none⟩, ⟨(some 5), (.mov (.tmp 11)), none⟩])))
def a83 : AFunc := ⟨2, [(.tmp 4)], (.seq (.region [⟨(some 4), (.mov (.const (.c (.val (.bool false))))), none⟩])
 (.seq (.seq (.region [⟨(some 5), (.mov (.const (.c (.val (.int .i64 0))))), none⟩])
 (.block 0 (.loop a83_c0)))
 (.seq (.region [⟨(some 4), (.mov (.const (.c (.val (.bool false))))), none⟩])
 .ret)))⟩
set_option maxRecDepth 100000 in
theorem c83 : compFunc Tryd.prog 83 = some a83 := by kernel_rfl
def clerestoryref2_hasByte_post (r : Bool) : AV → Heap → Nat → Prop := fun v h' n' => v = (B r) ∧ (h' = (fun _ => none)) ∧ n' = 0
noncomputable def clerestoryref2_hasByte_l0 (s_ : (List UInt8)) (c_ : Int) (K0_ : Unit → Option Bool) : Nat → Int → Option Bool
  | 0, _ => none
  | k + 1, i_ =>
    if decide (i_ < (s_.length : Int)) then
      (at? s_ i_).bind fun c_1 =>
      if decide ((c_1.toNat : Int) = c_) then
        some true
      else
        (clerestoryref2_hasByte_l0 s_ c_ K0_ k) (wi (i_ + 1))
    else
      K0_ ()
theorem clerestoryref2_hasByte_l0_ok {mL : Int} {Q : AExit → St → Prop} {s_ : (List UInt8)} {c_ : Int} {K0_ : Unit → Option Bool} {k : Nat} {i_ : Int} {o : Bool} (h : clerestoryref2_hasByte_l0 s_ c_ K0_ k i_ = some o)
    (hK0 : ∀ (_ : Unit), K0_ () = some o → ∀ s, Weak 0 s ⟨(fun _ => none), (fun _ => none), 0⟩ → Q (.exit 0) s)
    (hr : ∀ s, Ends a83.results 0 (clerestoryref2_hasByte_post o) .ret s → Q .ret s) :
    Sv Tryd.prog (GG mL) 0 (.loop a83_c0) Q ⟨(upd (upd (upd (fun _ => none) 0 (some (S s_))) 1 (some (.c (.val (.int .u8 c_))))) 5 (some (I i_))), (fun _ => none), 0⟩ := by
  refine Sv.loop (I := fun k s => ∃ (i_ : Int), clerestoryref2_hasByte_l0 s_ c_ K0_ k i_ = some o ∧ s = ⟨(upd (upd (upd (fun _ => none) 0 (some (S s_))) 1 (some (.c (.val (.int .u8 c_))))) 5 (some (I i_))), (fun _ => none), 0⟩) (fun k s hI => ?_) ⟨i_, h, rfl⟩
  clear h
  clear i_
  obtain ⟨i_, h, rfl⟩ := hI
  cases k with
  | zero => cases h
  | succ k =>
  rw [clerestoryref2_hasByte_l0] at h
  have hself : ∀ (i_ : Int), (clerestoryref2_hasByte_l0 s_ c_ K0_ k) i_ = some o → ∀ s, Weak 0 s ⟨(upd (upd (upd (fun _ => none) 0 (some (S s_))) 1 (some (.c (.val (.int .u8 c_))))) 5 (some (I i_))), (fun _ => none), 0⟩ → (AThen (fun s' => ∃ s'' k', Weak 0 s' s'' ∧ k' < k + 1 ∧ (fun k s => ∃ (i_ : Int), clerestoryref2_hasByte_l0 s_ c_ K0_ k i_ = some o ∧ s = ⟨(upd (upd (upd (fun _ => none) 0 (some (S s_))) 1 (some (.c (.val (.int .u8 c_))))) 5 (some (I i_))), (fun _ => none), 0⟩) k' s'') Q) .normal s := fun i_ h s hw => ⟨_, k, hw, Nat.lt_succ_self k, i_, h, rfl⟩
  refine Sv.seq ?_
  refine Sv.seq ?_
  refine Sv.region ?_
  refine un (a1 rfl ?_)
  refine un (a1 rfl ?_)
  refine un (a1 (v := (I (s_.length : Int))) rfl ?_)
  refine un (a1 (v := (B (decide (i_ < (s_.length : Int))))) rfl ?_)
  refine dnil ?_
  refine Sv.cond (b := decide (i_ < (s_.length : Int))) rfl (fun hc1 => ?_) (fun hc1 => ?_)
  · replace h := ifT hc1 h
    refine Sv.skip ?_
    refine Sv.seq ?_
    refine Sv.block ?_
    refine Sv.seq ?_
    refine Sv.region ?_
    refine un (a1 rfl ?_)
    refine un (a1 rfl ?_)
    obtain ⟨c_1, hx1, h⟩ := bnd h
    refine un (a1 (v := (.c (.val (.int .u8 (c_1.toNat : Int))))) (s_idxS rfl rfl hx1) ?_)
    refine un (a1 rfl ?_)
    refine un (a1 (v := (B (decide ((c_1.toNat : Int) = c_)))) rfl ?_)
    refine dnil ?_
    refine Sv.cond (b := decide ((c_1.toNat : Int) = c_)) rfl (fun hc2 => ?_) (fun hc2 => ?_)
    · replace h := ifT hc2 h
      refine Sv.seq ?_
      refine Sv.region ?_
      refine un (a1 rfl ?_)
      refine dnil ?_
      refine Sv.ret ?_
      replace h := Option.some.inj h
      subst h
      exact hr _ ⟨_, .refl _, _, rfl, ⟨upd (fun _ => none) 0 (some (B true)), (fun _ => none), 0⟩, (B true), weak_canon [] rfl List.nodup_nil (Nat.le_refl _) (fun b h => absurd h (Nat.not_lt_zero _)) (.cons rfl (avAs_free rfl) .nil) .nil, rfl, rfl, rfl, rfl⟩
    · replace h := ifF hc2 h
      refine Sv.skip ?_
      refine Sv.region ?_
      refine un (a1 rfl ?_)
      refine un (a1 (v := (I (wi (i_ + 1)))) rfl ?_)
      refine un (a1 rfl ?_)
      refine dnil ?_
      exact hself (wi (i_ + 1)) h _ (weak_canon [] rfl (by decide) (by decide) (fun b h => absurd h (Nat.not_lt_zero _)) (.cons rfl (avAs_free rfl) (.cons rfl (avAs_free rfl) (.cons rfl (avAs_free rfl) .nil))) .nil)
  · replace h := ifF hc1 h
    refine Sv.exit ?_
    exact hK0 () h _ (weak_canon [] rfl (by decide) (by decide) (fun b h => absurd h (Nat.not_lt_zero _)) .nil .nil)
/-- clerestory/clerestoryref2.hasByte -/
noncomputable def clerestoryref2_hasByte (s_ : (List UInt8)) (c_ : Int) : Option Bool :=
  lim fun kk => clerestoryref2_hasByte_l0 s_ c_ (fun (_ : Unit) => 
      some false) kk 0
theorem clerestoryref2_hasByte_ok {mL : Int} {s_ : (List UInt8)} {c_ : Int} {r : Bool} (h : clerestoryref2_hasByte s_ c_ = some r) : CPure Tryd.prog (GG mL) 83 [(S s_), (.c (.val (.int .u8 c_)))] (B r) := by
  refine acalls_of_sv hmix c83 (R := clerestoryref2_hasByte_post r) ?_
  unfold clerestoryref2_hasByte at h
  refine Sv.seq ?_
  refine Sv.region ?_
  refine un (a1 rfl ?_)
  refine dnil ?_
  refine Sv.seq ?_
  refine Sv.seq ?_
  refine Sv.region ?_
  refine un (a1 rfl ?_)
  refine dnil ?_
  refine Sv.block ?_
  obtain ⟨kk, h⟩ := lim_some h
  refine Sv.weak (weak_canon [] rfl (by decide) (by decide) (fun b h => absurd h (Nat.not_lt_zero _)) (.cons rfl (avAs_free rfl) (.cons rfl (avAs_free rfl) (.cons rfl (avAs_free rfl) .nil))) .nil) (clerestoryref2_hasByte_l0_ok h ?_ (fun s hs => hs))
  · intro _ h _ hw1
    refine Sv.weak hw1 ?_
    refine Sv.seq ?_
    refine Sv.region ?_
    refine un (a1 rfl ?_)
    refine dnil ?_
    refine Sv.ret ?_
    replace h := Option.some.inj h
    subst h
    exact ⟨_, .refl _, _, rfl, ⟨upd (fun _ => none) 0 (some (B false)), (fun _ => none), 0⟩, (B false), weak_canon [] rfl List.nodup_nil (Nat.le_refl _) (fun b h => absurd h (Nat.not_lt_zero _)) (.cons rfl (avAs_free rfl) .nil) .nil, rfl, rfl, rfl, rfl⟩
def a84 : AFunc := ⟨1, [(.tmp 2)], (.seq (.region [⟨(some 2), (.mov (.const (.c (.ro true 1 [])))), none⟩])
 (.seq (.seq (.region [⟨(some 3), (.mov (.tmp 0)), none⟩])
 (.block 0 (.seq (.region [⟨(some 5), (.bin .eql (.tmp 3) (.const (.c (.val (.int .i64 0))))), none⟩, ⟨(some 4), (.mov (.tmp 5)), none⟩])
 (.cond (.tmp 4) (.seq (.region [⟨(some 6), (.bslice 1 [(.str [])] 10 [(0, (.const (.c (.str [110, 111, 110, 101])))), (1, (.const (.c (.str [105, 110, 108, 105, 110, 101])))), (2, (.const (.c (.str [98, 108, 111, 99, 107])))), (3, (.const (.c (.str [105, 110, 108, 105, 110, 101, 45, 98, 108, 111, 99, 107])))), (4, (.const (.c (.str [102, 108, 101, 120])))), (5, (.const (.c (.str [116, 97, 98, 108, 101])))), (6, (.const (.c (.str [116, 97, 98, 108, 101, 45, 114, 111, 119])))), (7, (.const (.c (.str [116, 97, 98, 108, 101, 45, 99, 101, 108, 108])))), (8, (.const (.c (.str [108, 105, 115, 116, 45, 105, 116, 101, 109])))), (9, (.const (.c (.str [99, 111, 110, 116, 101, 110, 116, 115]))))]), none⟩, ⟨(some 2), (.mov (.tmp 6)), none⟩])
 .ret) (.seq (.region [⟨(some 8), (.bin .eql (.tmp 3) (.const (.c (.val (.int .i64 1))))), none⟩, ⟨(some 7), (.mov (.tmp 8)), none⟩])
 (.cond (.tmp 7) (.seq (.region [⟨(some 9), (.bslice 1 [(.str [])] 4 [(0, (.const (.c (.str [115, 116, 97, 116, 105, 99])))), (1, (.const (.c (.str [114, 101, 108, 97, 116, 105, 118, 101])))), (2, (.const (.c (.str [97, 98, 115, 111, 108, 117, 116, 101])))), (3, (.const (.c (.str [102, 105, 120, 101, 100]))))]), none⟩, ⟨(some 2), (.mov (.tmp 9)), none⟩])
 .ret) (.seq (.region [⟨(some 11), (.bin .eql (.tmp 3) (.const (.c (.val (.int .i64 2))))), none⟩, ⟨(some 10), (.mov (.tmp 11)), none⟩])
 (.cond (.tmp 10) (.seq (.region [⟨(some 12), (.bslice 1 [(.str [])] 3 [(0, (.const (.c (.str [110, 111, 110, 101])))), (1, (.const (.c (.str [108, 101, 102, 116])))), (2, (.const (.c (.str [114, 105, 103, 104, 116]))))]), none⟩, ⟨(some 2), (.mov (.tmp 12)), none⟩])
 .ret) (.seq (.region [⟨(some 14), (.bin .eql (.tmp 3) (.const (.c (.val (.int .i64 3))))), none⟩, ⟨(some 13), (.mov (.tmp 14)), none⟩])
 (.cond (.tmp 13) (.seq (.region [⟨(some 15), (.bslice 1 [(.str [])] 4 [(0, (.const (.c (.str [110, 111, 110, 101])))), (1, (.const (.c (.str [108, 101, 102, 116])))), (2, (.const (.c (.str [114, 105, 103, 104, 116])))), (3, (.const (.c (.str [98, 111, 116, 104]))))]), none⟩, ⟨(some 2), (.mov (.tmp 15)), none⟩])
 .ret) (.seq (.region [⟨(some 17), (.bin .eql (.tmp 3) (.const (.c (.val (.int .i64 4))))), none⟩, ⟨(some 16), (.mov (.tmp 17)), none⟩])
 (.cond (.tmp 16) (.seq (.region [⟨(some 18), (.bslice 1 [(.str [])] 2 [(0, (.const (.c (.str [99, 111, 110, 116, 101, 110, 116, 45, 98, 111, 120])))), (1, (.const (.c (.str [98, 111, 114, 100, 101, 114, 45, 98, 111, 120]))))]), none⟩, ⟨(some 2), (.mov (.tmp 18)), none⟩])
 .ret) (.seq (.region [⟨(some 20), (.bin .eql (.tmp 3) (.const (.c (.val (.int .i64 32))))), none⟩, ⟨(some 19), (.mov (.tmp 20)), none⟩])
 (.cond (.tmp 19) (.seq (.region [⟨(some 21), (.bslice 1 [(.str [])] 2 [(0, (.const (.c (.str [118, 105, 115, 105, 98, 108, 101])))), (1, (.const (.c (.str [104, 105, 100, 100, 101, 110]))))]), none⟩, ⟨(some 2), (.mov (.tmp 21)), none⟩])
 .ret) (.seq (.region [⟨(some 23), (.bin .eql (.tmp 3) (.const (.c (.val (.int .i64 33))))), none⟩, ⟨(some 22), (.mov (.tmp 23)), none⟩])
 (.cond (.tmp 22) (.seq (.region [⟨(some 24), (.bslice 1 [(.str [])] 2 [(0, (.const (.c (.str [118, 105, 115, 105, 98, 108, 101])))), (1, (.const (.c (.str [104, 105, 100, 100, 101, 110]))))]), none⟩, ⟨(some 2), (.mov (.tmp 24)), none⟩])
 .ret) (.seq (.region [⟨(some 26), (.bin .eql (.tmp 3) (.const (.c (.val (.int .i64 39))))), none⟩, ⟨(some 25), (.mov (.tmp 26)), none⟩])
 (.cond (.tmp 25) (.seq (.region [⟨(some 27), (.bslice 1 [(.str [])] 4 [(0, (.const (.c (.str [115, 116, 97, 114, 116])))), (1, (.const (.c (.str [101, 110, 100])))), (2, (.const (.c (.str [99, 101, 110, 116, 101, 114])))), (3, (.const (.c (.str [106, 117, 115, 116, 105, 102, 121]))))]), none⟩, ⟨(some 2), (.mov (.tmp 27)), none⟩])
 .ret) (.seq (.region [⟨(some 29), (.bin .eql (.tmp 3) (.const (.c (.val (.int .i64 41))))), none⟩, ⟨(some 28), (.mov (.tmp 29)), none⟩])
 (.cond (.tmp 28) (.seq (.region [⟨(some 30), (.bslice 1 [(.str [])] 4 [(0, (.const (.c (.str [110, 111, 114, 109, 97, 108])))), (1, (.const (.c (.str [112, 114, 101])))), (2, (.const (.c (.str [110, 111, 119, 114, 97, 112])))), (3, (.const (.c (.str [112, 114, 101, 45, 119, 114, 97, 112]))))]), none⟩, ⟨(some 2), (.mov (.tmp 30)), none⟩])
 .ret) (.seq (.region [⟨(some 32), (.bin .eql (.tmp 3) (.const (.c (.val (.int .i64 42))))), none⟩, ⟨(some 31), (.mov (.tmp 32)), none⟩])
 (.cond (.tmp 31) (.seq (.region [⟨(some 33), (.bslice 1 [(.str [])] 4 [(0, (.const (.c (.str [98, 97, 115, 101, 108, 105, 110, 101])))), (1, (.const (.c (.str [116, 111, 112])))), (2, (.const (.c (.str [109, 105, 100, 100, 108, 101])))), (3, (.const (.c (.str [98, 111, 116, 116, 111, 109]))))]), none⟩, ⟨(some 2), (.mov (.tmp 33)), none⟩])
 .ret) (.seq (.region [⟨(some 35), (.bin .eql (.tmp 3) (.const (.c (.val (.int .i64 43))))), none⟩, ⟨(some 34), (.mov (.tmp 35)), none⟩])
 (.cond (.tmp 34) (.seq (.region [⟨(some 36), (.bslice 1 [(.str [])] 3 [(0, (.const (.c (.str [110, 111, 110, 101])))), (1, (.const (.c (.str [117, 112, 112, 101, 114, 99, 97, 115, 101])))), (2, (.const (.c (.str [108, 111, 119, 101, 114, 99, 97, 115, 101]))))]), none⟩, ⟨(some 2), (.mov (.tmp 36)), none⟩])
 .ret) (.seq (.region [⟨(some 38), (.bin .eql (.tmp 3) (.const (.c (.val (.int .i64 45))))), none⟩, ⟨(some 37), (.mov (.tmp 38)), none⟩])
 (.cond (.tmp 37) (.seq (.region [⟨(some 39), (.bslice 1 [(.str [])] 4 [(0, (.const (.c (.str [114, 111, 119])))), (1, (.const (.c (.str [114, 111, 119, 45, 114, 101, 118, 101, 114, 115, 101])))), (2, (.const (.c (.str [99, 111, 108, 117, 109, 110])))), (3, (.const (.c (.str [99, 111, 108, 117, 109, 110, 45, 114, 101, 118, 101, 114, 115, 101]))))]), none⟩, ⟨(some 2), (.mov (.tmp 39)), none⟩])
 .ret) (.seq (.region [⟨(some 41), (.bin .eql (.tmp 3) (.const (.c (.val (.int .i64 46))))), none⟩, ⟨(some 40), (.mov (.tmp 41)), none⟩])
 (.cond (.tmp 40) (.seq (.region [⟨(some 42), (.bslice 1 [(.str [])] 2 [(0, (.const (.c (.str [110, 111, 119, 114, 97, 112])))), (1, (.const (.c (.str [119, 114, 97, 112]))))]), none⟩, ⟨(some 2), (.mov (.tmp 42)), none⟩])
 .ret) (.seq (.region [⟨(some 44), (.bin .eql (.tmp 3) (.const (.c (.val (.int .i64 47))))), none⟩, ⟨(some 43), (.mov (.tmp 44)), none⟩])
 (.cond (.tmp 43) (.seq (.region [⟨(some 45), (.bslice 1 [(.str [])] 6 [(0, (.const (.c (.str [102, 108, 101, 120, 45, 115, 116, 97, 114, 116])))), (1, (.const (.c (.str [102, 108, 101, 120, 45, 101, 110, 100])))), (2, (.const (.c (.str [99, 101, 110, 116, 101, 114])))), (3, (.const (.c (.str [])))), (4, (.const (.c (.str [115, 112, 97, 99, 101, 45, 98, 101, 116, 119, 101, 101, 110])))), (5, (.const (.c (.str [115, 112, 97, 99, 101, 45, 97, 114, 111, 117, 110, 100]))))]), none⟩, ⟨(some 2), (.mov (.tmp 45)), none⟩])
 .ret) (.seq (.region [⟨(some 47), (.bin .eql (.tmp 3) (.const (.c (.val (.int .i64 48))))), none⟩, ⟨(some 46), (.mov (.tmp 47)), none⟩])
 (.cond (.tmp 46) (.seq (.region [⟨(some 48), (.bslice 1 [(.str [])] 7 [(0, (.const (.c (.str [102, 108, 101, 120, 45, 115, 116, 97, 114, 116])))), (1, (.const (.c (.str [102, 108, 101, 120, 45, 101, 110, 100])))), (2, (.const (.c (.str [99, 101, 110, 116, 101, 114])))), (3, (.const (.c (.str [])))), (4, (.const (.c (.str [])))), (5, (.const (.c (.str [])))), (6, (.const (.c (.str [115, 116, 114, 101, 116, 99, 104]))))]), none⟩, ⟨(some 2), (.mov (.tmp 48)), none⟩])
 .ret) (.seq (.region [⟨(some 50), (.bin .eql (.tmp 3) (.const (.c (.val (.int .i64 49))))), none⟩, ⟨(some 49), (.mov (.tmp 50)), none⟩])
 (.cond (.tmp 49) (.seq (.region [⟨(some 51), (.bslice 1 [(.str [])] 7 [(0, (.const (.c (.str [102, 108, 101, 120, 45, 115, 116, 97, 114, 116])))), (1, (.const (.c (.str [102, 108, 101, 120, 45, 101, 110, 100])))), (2, (.const (.c (.str [99, 101, 110, 116, 101, 114])))), (3, (.const (.c (.str [])))), (4, (.const (.c (.str [])))), (5, (.const (.c (.str [])))), (6, (.const (.c (.str [115, 116, 114, 101, 116, 99, 104]))))]), none⟩, ⟨(some 2), (.mov (.tmp 51)), none⟩])
 .ret) (.seq (.region [⟨(some 53), (.bin .eql (.tmp 3) (.const (.c (.val (.int .i64 55))))), none⟩, ⟨(some 52), (.mov (.tmp 53)), none⟩])
 (.cond (.tmp 52) (.seq (.region [⟨(some 54), (.bslice 1 [(.str [])] 2 [(0, (.const (.c (.str [97, 117, 116, 111])))), (1, (.const (.c (.str [102, 105, 120, 101, 100]))))]), none⟩, ⟨(some 2), (.mov (.tmp 54)), none⟩])
 .ret) (.seq (.region [⟨(some 56), (.bin .eql (.tmp 3) (.const (.c (.val (.int .i64 57))))), none⟩, ⟨(some 55), (.mov (.tmp 56)), none⟩])
 (.cond (.tmp 55) (.seq (.region [⟨(some 57), (.bslice 1 [(.str [])] 3 [(0, (.const (.c (.str [110, 111, 110, 101])))), (1, (.const (.c (.str [100, 105, 115, 99])))), (2, (.const (.c (.str [100, 101, 99, 105, 109, 97, 108]))))]), none⟩, ⟨(some 2), (.mov (.tmp 57)), none⟩])
 .ret) (.seq (.region [⟨(some 59), (.bin .eql (.tmp 3) (.const (.c (.val (.int .i64 58))))), none⟩, ⟨(some 58), (.mov (.tmp 59)), none⟩])
 (.cond (.tmp 58) (.seq (.region [⟨(some 60), (.bslice 1 [(.str [])] 2 [(0, (.const (.c (.str [97, 117, 116, 111])))), (1, (.const (.c (.str [110, 111, 110, 101]))))]), none⟩, ⟨(some 2), (.mov (.tmp 60)), none⟩])
 .ret) .skip))))))))))))))))))))))))))))))))))))))))
 (.seq (.region [⟨(some 2), (.mov (.const (.c (.ro true 1 [])))), none⟩])
 .ret)))⟩
set_option maxRecDepth 100000 in
theorem c84 : compFunc Tryd.prog 84 = some a84 := by kernel_rfl
def clerestoryref2_PropKeys_post (r : (List (List UInt8))) : AV → Heap → Nat → Prop := fun v h' n' => ∃ z0 : Bool, (z0 = true → r = []) ∧ v = (lstV z0 0 1 r.length) ∧ (h' = (upd (fun _ => none) 0 (lstB z0 1 (r.map eStr)))) ∧ n' = 1
def clerestoryref2_PropKeys_t0 : List (List UInt8) := [[110, 111, 110, 101], [105, 110, 108, 105, 110, 101], [98, 108, 111, 99, 107], [105, 110, 108, 105, 110, 101, 45, 98, 108, 111, 99, 107], [102, 108, 101, 120], [116, 97, 98, 108, 101], [116, 97, 98, 108, 101, 45, 114, 111, 119], [116, 97, 98, 108, 101, 45, 99, 101, 108, 108], [108, 105, 115, 116, 45, 105, 116, 101, 109], [99, 111, 110, 116, 101, 110, 116, 115]]
def clerestoryref2_PropKeys_t1 : List (List UInt8) := [[115, 116, 97, 116, 105, 99], [114, 101, 108, 97, 116, 105, 118, 101], [97, 98, 115, 111, 108, 117, 116, 101], [102, 105, 120, 101, 100]]
def clerestoryref2_PropKeys_t2 : List (List UInt8) := [[110, 111, 110, 101], [108, 101, 102, 116], [114, 105, 103, 104, 116], [98, 111, 116, 104]]
def clerestoryref2_PropKeys_t3 : List (List UInt8) := [[99, 111, 110, 116, 101, 110, 116, 45, 98, 111, 120], [98, 111, 114, 100, 101, 114, 45, 98, 111, 120]]
def clerestoryref2_PropKeys_t4 : List (List UInt8) := [[115, 116, 97, 114, 116], [101, 110, 100], [99, 101, 110, 116, 101, 114], [106, 117, 115, 116, 105, 102, 121]]
def clerestoryref2_PropKeys_t5 : List (List UInt8) := [[110, 111, 114, 109, 97, 108], [112, 114, 101], [110, 111, 119, 114, 97, 112], [112, 114, 101, 45, 119, 114, 97, 112]]
def clerestoryref2_PropKeys_t6 : List (List UInt8) := [[98, 97, 115, 101, 108, 105, 110, 101], [116, 111, 112], [109, 105, 100, 100, 108, 101], [98, 111, 116, 116, 111, 109]]
def clerestoryref2_PropKeys_t7 : List (List UInt8) := [[110, 111, 110, 101], [117, 112, 112, 101, 114, 99, 97, 115, 101], [108, 111, 119, 101, 114, 99, 97, 115, 101]]
def clerestoryref2_PropKeys_t8 : List (List UInt8) := [[114, 111, 119], [114, 111, 119, 45, 114, 101, 118, 101, 114, 115, 101], [99, 111, 108, 117, 109, 110], [99, 111, 108, 117, 109, 110, 45, 114, 101, 118, 101, 114, 115, 101]]
def clerestoryref2_PropKeys_t9 : List (List UInt8) := [[102, 108, 101, 120, 45, 115, 116, 97, 114, 116], [102, 108, 101, 120, 45, 101, 110, 100], [99, 101, 110, 116, 101, 114], [], [115, 112, 97, 99, 101, 45, 98, 101, 116, 119, 101, 101, 110], [115, 112, 97, 99, 101, 45, 97, 114, 111, 117, 110, 100]]
def clerestoryref2_PropKeys_t10 : List (List UInt8) := [[102, 108, 101, 120, 45, 115, 116, 97, 114, 116], [102, 108, 101, 120, 45, 101, 110, 100], [99, 101, 110, 116, 101, 114], [], [], [], [115, 116, 114, 101, 116, 99, 104]]
def clerestoryref2_PropKeys_t11 : List (List UInt8) := [[110, 111, 110, 101], [100, 105, 115, 99], [100, 101, 99, 105, 109, 97, 108]]
/-- clerestory/clerestoryref2.PropKeys -/
noncomputable def clerestoryref2_PropKeys (p_ : Int) : Option (List (List UInt8)) :=
  if decide (p_ = 0) then
    some clerestoryref2_PropKeys_t0
  else
    if decide (p_ = 1) then
      some clerestoryref2_PropKeys_t1
    else
      if decide (p_ = 2) then
        some ([[110, 111, 110, 101], [108, 101, 102, 116], [114, 105, 103, 104, 116]] : List (List UInt8))
      else
        if decide (p_ = 3) then
          some clerestoryref2_PropKeys_t2
        else
          if decide (p_ = 4) then
            some clerestoryref2_PropKeys_t3
          else
            if decide (p_ = 32) then
              some ([[118, 105, 115, 105, 98, 108, 101], [104, 105, 100, 100, 101, 110]] : List (List UInt8))
            else
              if decide (p_ = 33) then
                some ([[118, 105, 115, 105, 98, 108, 101], [104, 105, 100, 100, 101, 110]] : List (List UInt8))
              else
                if decide (p_ = 39) then
                  some clerestoryref2_PropKeys_t4
                else
                  if decide (p_ = 41) then
                    some clerestoryref2_PropKeys_t5
                  else
                    if decide (p_ = 42) then
                      some clerestoryref2_PropKeys_t6
                    else
                      if decide (p_ = 43) then
                        some clerestoryref2_PropKeys_t7
                      else
                        if decide (p_ = 45) then
                          some clerestoryref2_PropKeys_t8
                        else
                          if decide (p_ = 46) then
                            some ([[110, 111, 119, 114, 97, 112], [119, 114, 97, 112]] : List (List UInt8))
                          else
                            if decide (p_ = 47) then
                              some clerestoryref2_PropKeys_t9
                            else
                              if decide (p_ = 48) then
                                some clerestoryref2_PropKeys_t10
                              else
                                if decide (p_ = 49) then
                                  some clerestoryref2_PropKeys_t10
                                else
                                  if decide (p_ = 55) then
                                    some ([[97, 117, 116, 111], [102, 105, 120, 101, 100]] : List (List UInt8))
                                  else
                                    if decide (p_ = 57) then
                                      some clerestoryref2_PropKeys_t11
                                    else
                                      if decide (p_ = 58) then
                                        some ([[97, 117, 116, 111], [110, 111, 110, 101]] : List (List UInt8))
                                      else
                                        some ([] : List (List UInt8))
theorem clerestoryref2_PropKeys_ok {mL : Int} {p_ : Int} {r : (List (List UInt8))} (h : clerestoryref2_PropKeys p_ = some r) : ACalls Tryd.prog (GG mL) 84 [(I p_)] (fun _ => none) 0 (clerestoryref2_PropKeys_post r) := by
  refine acalls_of_sv hmix c84 (R := clerestoryref2_PropKeys_post r) ?_
  unfold clerestoryref2_PropKeys at h
  refine Sv.seq ?_
  refine Sv.region ?_
  refine un (a1 rfl ?_)
  refine dnil ?_
  refine Sv.seq ?_
  refine Sv.seq ?_
  refine Sv.region ?_
  refine un (a1 rfl ?_)
  refine dnil ?_
  refine Sv.block ?_
  refine Sv.seq ?_
  refine Sv.region ?_
  refine un (a1 (v := (B (decide (p_ = 0)))) rfl ?_)
  refine un (a1 rfl ?_)
  refine dnil ?_
  refine Sv.cond (b := decide (p_ = 0)) rfl (fun hc1 => ?_) (fun hc1 => ?_)
  · replace h := ifT hc1 h
    refine Sv.seq ?_
    refine Sv.region ?_
    refine un (a2v (v := (lstV false 0 1 clerestoryref2_PropKeys_t0.length)) (h' := upd _ 0 (lstB false 1 (clerestoryref2_PropKeys_t0.map eStr))) (n' := 1) rfl rfl (fun h => by cases h) ?_)
    refine un (a1 rfl ?_)
    refine dnil ?_
    refine Sv.ret ?_
    replace h := Option.some.inj h
    subst h
    exact ⟨_, .refl _, _, rfl, ⟨upd (fun _ => none) 0 (some (lstV false 0 1 clerestoryref2_PropKeys_t0.length)), (upd (fun _ => none) 0 (lstB false 1 (clerestoryref2_PropKeys_t0.map eStr))), 1⟩, (lstV false 0 1 clerestoryref2_PropKeys_t0.length), weak_canon2 [0] [0] (by decide) (by decide) (fun b h => absurd h (Nat.not_lt_zero _)) (.cons (by decide) .nil) (.cons rfl (.c (lstC_ren rfl (by decide))) .nil) (.row (by decide) rfl (fr_map fun _ => rfl) .nil), rfl, false, (fun h => by cases h), rfl, rfl, rfl⟩
  · replace h := ifF hc1 h
    refine Sv.seq ?_
    refine Sv.region ?_
    refine un (a1 (v := (B (decide (p_ = 1)))) rfl ?_)
    refine un (a1 rfl ?_)
    refine dnil ?_
    refine Sv.cond (b := decide (p_ = 1)) rfl (fun hc2 => ?_) (fun hc2 => ?_)
    · replace h := ifT hc2 h
      refine Sv.seq ?_
      refine Sv.region ?_
      refine un (a2v (v := (lstV false 0 1 clerestoryref2_PropKeys_t1.length)) (h' := upd _ 0 (lstB false 1 (clerestoryref2_PropKeys_t1.map eStr))) (n' := 1) rfl rfl (fun h => by cases h) ?_)
      refine un (a1 rfl ?_)
      refine dnil ?_
      refine Sv.ret ?_
      replace h := Option.some.inj h
      subst h
      exact ⟨_, .refl _, _, rfl, ⟨upd (fun _ => none) 0 (some (lstV false 0 1 clerestoryref2_PropKeys_t1.length)), (upd (fun _ => none) 0 (lstB false 1 (clerestoryref2_PropKeys_t1.map eStr))), 1⟩, (lstV false 0 1 clerestoryref2_PropKeys_t1.length), weak_canon2 [0] [0] (by decide) (by decide) (fun b h => absurd h (Nat.not_lt_zero _)) (.cons (by decide) .nil) (.cons rfl (.c (lstC_ren rfl (by decide))) .nil) (.row (by decide) rfl (fr_map fun _ => rfl) .nil), rfl, false, (fun h => by cases h), rfl, rfl, rfl⟩
    · replace h := ifF hc2 h
      refine Sv.seq ?_
      refine Sv.region ?_
      refine un (a1 (v := (B (decide (p_ = 2)))) rfl ?_)
      refine un (a1 rfl ?_)
      refine dnil ?_
      refine Sv.cond (b := decide (p_ = 2)) rfl (fun hc3 => ?_) (fun hc3 => ?_)
      · replace h := ifT hc3 h
        refine Sv.seq ?_
        refine Sv.region ?_
        refine un (a2v (v := (lstV false 0 1 ([[110, 111, 110, 101], [108, 101, 102, 116], [114, 105, 103, 104, 116]] : List (List UInt8)).length)) (h' := upd _ 0 (lstB false 1 (([[110, 111, 110, 101], [108, 101, 102, 116], [114, 105, 103, 104, 116]] : List (List UInt8)).map eStr))) (n' := 1) rfl rfl (fun h => by cases h) ?_)
        refine un (a1 rfl ?_)
        refine dnil ?_
        refine Sv.ret ?_
        replace h := Option.some.inj h
        subst h
        exact ⟨_, .refl _, _, rfl, ⟨upd (fun _ => none) 0 (some (lstV false 0 1 ([[110, 111, 110, 101], [108, 101, 102, 116], [114, 105, 103, 104, 116]] : List (List UInt8)).length)), (upd (fun _ => none) 0 (lstB false 1 (([[110, 111, 110, 101], [108, 101, 102, 116], [114, 105, 103, 104, 116]] : List (List UInt8)).map eStr))), 1⟩, (lstV false 0 1 ([[110, 111, 110, 101], [108, 101, 102, 116], [114, 105, 103, 104, 116]] : List (List UInt8)).length), weak_canon2 [0] [0] (by decide) (by decide) (fun b h => absurd h (Nat.not_lt_zero _)) (.cons (by decide) .nil) (.cons rfl (.c (lstC_ren rfl (by decide))) .nil) (.row (by decide) rfl (fr_map fun _ => rfl) .nil), rfl, false, (fun h => by cases h), rfl, rfl, rfl⟩
      · replace h := ifF hc3 h
        refine Sv.seq ?_
        refine Sv.region ?_
        refine un (a1 (v := (B (decide (p_ = 3)))) rfl ?_)
        refine un (a1 rfl ?_)
        refine dnil ?_
        refine Sv.cond (b := decide (p_ = 3)) rfl (fun hc4 => ?_) (fun hc4 => ?_)
        · replace h := ifT hc4 h
          refine Sv.seq ?_
          refine Sv.region ?_
          refine un (a2v (v := (lstV false 0 1 clerestoryref2_PropKeys_t2.length)) (h' := upd _ 0 (lstB false 1 (clerestoryref2_PropKeys_t2.map eStr))) (n' := 1) rfl rfl (fun h => by cases h) ?_)
          refine un (a1 rfl ?_)
          refine dnil ?_
          refine Sv.ret ?_
          replace h := Option.some.inj h
          subst h
          exact ⟨_, .refl _, _, rfl, ⟨upd (fun _ => none) 0 (some (lstV false 0 1 clerestoryref2_PropKeys_t2.length)), (upd (fun _ => none) 0 (lstB false 1 (clerestoryref2_PropKeys_t2.map eStr))), 1⟩, (lstV false 0 1 clerestoryref2_PropKeys_t2.length), weak_canon2 [0] [0] (by decide) (by decide) (fun b h => absurd h (Nat.not_lt_zero _)) (.cons (by decide) .nil) (.cons rfl (.c (lstC_ren rfl (by decide))) .nil) (.row (by decide) rfl (fr_map fun _ => rfl) .nil), rfl, false, (fun h => by cases h), rfl, rfl, rfl⟩
        · replace h := ifF hc4 h
          refine Sv.seq ?_
          refine Sv.region ?_
          refine un (a1 (v := (B (decide (p_ = 4)))) rfl ?_)
          refine un (a1 rfl ?_)
          refine dnil ?_
          refine Sv.cond (b := decide (p_ = 4)) rfl (fun hc5 => ?_) (fun hc5 => ?_)
          · replace h := ifT hc5 h
            refine Sv.seq ?_
            refine Sv.region ?_
            refine un (a2v (v := (lstV false 0 1 clerestoryref2_PropKeys_t3.length)) (h' := upd _ 0 (lstB false 1 (clerestoryref2_PropKeys_t3.map eStr))) (n' := 1) rfl rfl (fun h => by cases h) ?_)
            refine un (a1 rfl ?_)
            refine dnil ?_
            refine Sv.ret ?_
            replace h := Option.some.inj h
            subst h
            exact ⟨_, .refl _, _, rfl, ⟨upd (fun _ => none) 0 (some (lstV false 0 1 clerestoryref2_PropKeys_t3.length)), (upd (fun _ => none) 0 (lstB false 1 (clerestoryref2_PropKeys_t3.map eStr))), 1⟩, (lstV false 0 1 clerestoryref2_PropKeys_t3.length), weak_canon2 [0] [0] (by decide) (by decide) (fun b h => absurd h (Nat.not_lt_zero _)) (.cons (by decide) .nil) (.cons rfl (.c (lstC_ren rfl (by decide))) .nil) (.row (by decide) rfl (fr_map fun _ => rfl) .nil), rfl, false, (fun h => by cases h), rfl, rfl, rfl⟩
          · replace h := ifF hc5 h
            refine Sv.seq ?_
            refine Sv.region ?_
            refine un (a1 (v := (B (decide (p_ = 32)))) rfl ?_)
            refine un (a1 rfl ?_)
            refine dnil ?_
            refine Sv.cond (b := decide (p_ = 32)) rfl (fun hc6 => ?_) (fun hc6 => ?_)
            · replace h := ifT hc6 h
              refine Sv.seq ?_
              refine Sv.region ?_
              refine un (a2v (v := (lstV false 0 1 ([[118, 105, 115, 105, 98, 108, 101], [104, 105, 100, 100, 101, 110]] : List (List UInt8)).length)) (h' := upd _ 0 (lstB false 1 (([[118, 105, 115, 105, 98, 108, 101], [104, 105, 100, 100, 101, 110]] : List (List UInt8)).map eStr))) (n' := 1) rfl rfl (fun h => by cases h) ?_)
              refine un (a1 rfl ?_)
              refine dnil ?_
              refine Sv.ret ?_
              replace h := Option.some.inj h
              subst h
              exact ⟨_, .refl _, _, rfl, ⟨upd (fun _ => none) 0 (some (lstV false 0 1 ([[118, 105, 115, 105, 98, 108, 101], [104, 105, 100, 100, 101, 110]] : List (List UInt8)).length)), (upd (fun _ => none) 0 (lstB false 1 (([[118, 105, 115, 105, 98, 108, 101], [104, 105, 100, 100, 101, 110]] : List (List UInt8)).map eStr))), 1⟩, (lstV false 0 1 ([[118, 105, 115, 105, 98, 108, 101], [104, 105, 100, 100, 101, 110]] : List (List UInt8)).length), weak_canon2 [0] [0] (by decide) (by decide) (fun b h => absurd h (Nat.not_lt_zero _)) (.cons (by decide) .nil) (.cons rfl (.c (lstC_ren rfl (by decide))) .nil) (.row (by decide) rfl (fr_map fun _ => rfl) .nil), rfl, false, (fun h => by cases h), rfl, rfl, rfl⟩
            · replace h := ifF hc6 h
              refine Sv.seq ?_
              refine Sv.region ?_
              refine un (a1 (v := (B (decide (p_ = 33)))) rfl ?_)
              refine un (a1 rfl ?_)
              refine dnil ?_
              refine Sv.cond (b := decide (p_ = 33)) rfl (fun hc7 => ?_) (fun hc7 => ?_)
              · replace h := ifT hc7 h
                refine Sv.seq ?_
                refine Sv.region ?_
                refine un (a2v (v := (lstV false 0 1 ([[118, 105, 115, 105, 98, 108, 101], [104, 105, 100, 100, 101, 110]] : List (List UInt8)).length)) (h' := upd _ 0 (lstB false 1 (([[118, 105, 115, 105, 98, 108, 101], [104, 105, 100, 100, 101, 110]] : List (List UInt8)).map eStr))) (n' := 1) rfl rfl (fun h => by cases h) ?_)
                refine un (a1 rfl ?_)
                refine dnil ?_
                refine Sv.ret ?_
                replace h := Option.some.inj h
                subst h
                exact ⟨_, .refl _, _, rfl, ⟨upd (fun _ => none) 0 (some (lstV false 0 1 ([[118, 105, 115, 105, 98, 108, 101], [104, 105, 100, 100, 101, 110]] : List (List UInt8)).length)), (upd (fun _ => none) 0 (lstB false 1 (([[118, 105, 115, 105, 98, 108, 101], [104, 105, 100, 100, 101, 110]] : List (List UInt8)).map eStr))), 1⟩, (lstV false 0 1 ([[118, 105, 115, 105, 98, 108, 101], [104, 105, 100, 100, 101, 110]] : List (List UInt8)).length), weak_canon2 [0] [0] (by decide) (by decide) (fun b h => absurd h (Nat.not_lt_zero _)) (.cons (by decide) .nil) (.cons rfl (.c (lstC_ren rfl (by decide))) .nil) (.row (by decide) rfl (fr_map fun _ => rfl) .nil), rfl, false, (fun h => by cases h), rfl, rfl, rfl⟩
              · replace h := ifF hc7 h
                refine Sv.seq ?_
                refine Sv.region ?_
                refine un (a1 (v := (B (decide (p_ = 39)))) rfl ?_)
                refine un (a1 rfl ?_)
                refine dnil ?_
                refine Sv.cond (b := decide (p_ = 39)) rfl (fun hc8 => ?_) (fun hc8 => ?_)
                · replace h := ifT hc8 h
                  refine Sv.seq ?_
                  refine Sv.region ?_
                  refine un (a2v (v := (lstV false 0 1 clerestoryref2_PropKeys_t4.length)) (h' := upd _ 0 (lstB false 1 (clerestoryref2_PropKeys_t4.map eStr))) (n' := 1) rfl rfl (fun h => by cases h) ?_)
                  refine un (a1 rfl ?_)
                  refine dnil ?_
                  refine Sv.ret ?_
                  replace h := Option.some.inj h
                  subst h
                  exact ⟨_, .refl _, _, rfl, ⟨upd (fun _ => none) 0 (some (lstV false 0 1 clerestoryref2_PropKeys_t4.length)), (upd (fun _ => none) 0 (lstB false 1 (clerestoryref2_PropKeys_t4.map eStr))), 1⟩, (lstV false 0 1 clerestoryref2_PropKeys_t4.length), weak_canon2 [0] [0] (by decide) (by decide) (fun b h => absurd h (Nat.not_lt_zero _)) (.cons (by decide) .nil) (.cons rfl (.c (lstC_ren rfl (by decide))) .nil) (.row (by decide) rfl (fr_map fun _ => rfl) .nil), rfl, false, (fun h => by cases h), rfl, rfl, rfl⟩
                · replace h := ifF hc8 h
                  refine Sv.seq ?_
                  refine Sv.region ?_
                  refine un (a1 (v := (B (decide (p_ = 41)))) rfl ?_)
                  refine un (a1 rfl ?_)
                  refine dnil ?_
                  refine Sv.cond (b := decide (p_ = 41)) rfl (fun hc9 => ?_) (fun hc9 => ?_)
                  · replace h := ifT hc9 h
                    refine Sv.seq ?_
                    refine Sv.region ?_
                    refine un (a2v (v := (lstV false 0 1 clerestoryref2_PropKeys_t5.length)) (h' := upd _ 0 (lstB false 1 (clerestoryref2_PropKeys_t5.map eStr))) (n' := 1) rfl rfl (fun h => by cases h) ?_)
                    refine un (a1 rfl ?_)
                    refine dnil ?_
                    refine Sv.ret ?_
                    replace h := Option.some.inj h
                    subst h
                    exact ⟨_, .refl _, _, rfl, ⟨upd (fun _ => none) 0 (some (lstV false 0 1 clerestoryref2_PropKeys_t5.length)), (upd (fun _ => none) 0 (lstB false 1 (clerestoryref2_PropKeys_t5.map eStr))), 1⟩, (lstV false 0 1 clerestoryref2_PropKeys_t5.length), weak_canon2 [0] [0] (by decide) (by decide) (fun b h => absurd h (Nat.not_lt_zero _)) (.cons (by decide) .nil) (.cons rfl (.c (lstC_ren rfl (by decide))) .nil) (.row (by decide) rfl (fr_map fun _ => rfl) .nil), rfl, false, (fun h => by cases h), rfl, rfl, rfl⟩
                  · replace h := ifF hc9 h
                    refine Sv.seq ?_
                    refine Sv.region ?_
                    refine un (a1 (v := (B (decide (p_ = 42)))) rfl ?_)
                    refine un (a1 rfl ?_)
                    refine dnil ?_
                    refine Sv.cond (b := decide (p_ = 42)) rfl (fun hc10 => ?_) (fun hc10 => ?_)
                    · replace h := ifT hc10 h
                      refine Sv.seq ?_
                      refine Sv.region ?_
                      refine un (a2v (v := (lstV false 0 1 clerestoryref2_PropKeys_t6.length)) (h' := upd _ 0 (lstB false 1 (clerestoryref2_PropKeys_t6.map eStr))) (n' := 1) rfl rfl (fun h => by cases h) ?_)
                      refine un (a1 rfl ?_)
                      refine dnil ?_
                      refine Sv.ret ?_
                      replace h := Option.some.inj h
                      subst h
                      exact ⟨_, .refl _, _, rfl, ⟨upd (fun _ => none) 0 (some (lstV false 0 1 clerestoryref2_PropKeys_t6.length)), (upd (fun _ => none) 0 (lstB false 1 (clerestoryref2_PropKeys_t6.map eStr))), 1⟩, (lstV false 0 1 clerestoryref2_PropKeys_t6.length), weak_canon2 [0] [0] (by decide) (by decide) (fun b h => absurd h (Nat.not_lt_zero _)) (.cons (by decide) .nil) (.cons rfl (.c (lstC_ren rfl (by decide))) .nil) (.row (by decide) rfl (fr_map fun _ => rfl) .nil), rfl, false, (fun h => by cases h), rfl, rfl, rfl⟩
                    · replace h := ifF hc10 h
                      refine Sv.seq ?_
                      refine Sv.region ?_
                      refine un (a1 (v := (B (decide (p_ = 43)))) rfl ?_)
                      refine un (a1 rfl ?_)
                      refine dnil ?_
                      refine Sv.cond (b := decide (p_ = 43)) rfl (fun hc11 => ?_) (fun hc11 => ?_)
                      · replace h := ifT hc11 h
                        refine Sv.seq ?_
                        refine Sv.region ?_
                        refine un (a2v (v := (lstV false 0 1 clerestoryref2_PropKeys_t7.length)) (h' := upd _ 0 (lstB false 1 (clerestoryref2_PropKeys_t7.map eStr))) (n' := 1) rfl rfl (fun h => by cases h) ?_)
                        refine un (a1 rfl ?_)
                        refine dnil ?_
                        refine Sv.ret ?_
                        replace h := Option.some.inj h
                        subst h
                        exact ⟨_, .refl _, _, rfl, ⟨upd (fun _ => none) 0 (some (lstV false 0 1 clerestoryref2_PropKeys_t7.length)), (upd (fun _ => none) 0 (lstB false 1 (clerestoryref2_PropKeys_t7.map eStr))), 1⟩, (lstV false 0 1 clerestoryref2_PropKeys_t7.length), weak_canon2 [0] [0] (by decide) (by decide) (fun b h => absurd h (Nat.not_lt_zero _)) (.cons (by decide) .nil) (.cons rfl (.c (lstC_ren rfl (by decide))) .nil) (.row (by decide) rfl (fr_map fun _ => rfl) .nil), rfl, false, (fun h => by cases h), rfl, rfl, rfl⟩
                      · replace h := ifF hc11 h
                        refine Sv.seq ?_
                        refine Sv.region ?_
                        refine un (a1 (v := (B (decide (p_ = 45)))) rfl ?_)
                        refine un (a1 rfl ?_)
                        refine dnil ?_
                        refine Sv.cond (b := decide (p_ = 45)) rfl (fun hc12 => ?_) (fun hc12 => ?_)
                        · replace h := ifT hc12 h
                          refine Sv.seq ?_
                          refine Sv.region ?_
                          refine un (a2v (v := (lstV false 0 1 clerestoryref2_PropKeys_t8.length)) (h' := upd _ 0 (lstB false 1 (clerestoryref2_PropKeys_t8.map eStr))) (n' := 1) rfl rfl (fun h => by cases h) ?_)
                          refine un (a1 rfl ?_)
                          refine dnil ?_
                          refine Sv.ret ?_
                          replace h := Option.some.inj h
                          subst h
                          exact ⟨_, .refl _, _, rfl, ⟨upd (fun _ => none) 0 (some (lstV false 0 1 clerestoryref2_PropKeys_t8.length)), (upd (fun _ => none) 0 (lstB false 1 (clerestoryref2_PropKeys_t8.map eStr))), 1⟩, (lstV false 0 1 clerestoryref2_PropKeys_t8.length), weak_canon2 [0] [0] (by decide) (by decide) (fun b h => absurd h (Nat.not_lt_zero _)) (.cons (by decide) .nil) (.cons rfl (.c (lstC_ren rfl (by decide))) .nil) (.row (by decide) rfl (fr_map fun _ => rfl) .nil), rfl, false, (fun h => by cases h), rfl, rfl, rfl⟩
                        · replace h := ifF hc12 h
                          refine Sv.seq ?_
                          refine Sv.region ?_
                          refine un (a1 (v := (B (decide (p_ = 46)))) rfl ?_)
                          refine un (a1 rfl ?_)
                          refine dnil ?_
                          refine Sv.cond (b := decide (p_ = 46)) rfl (fun hc13 => ?_) (fun hc13 => ?_)
                          · replace h := ifT hc13 h
                            refine Sv.seq ?_
                            refine Sv.region ?_
                            refine un (a2v (v := (lstV false 0 1 ([[110, 111, 119, 114, 97, 112], [119, 114, 97, 112]] : List (List UInt8)).length)) (h' := upd _ 0 (lstB false 1 (([[110, 111, 119, 114, 97, 112], [119, 114, 97, 112]] : List (List UInt8)).map eStr))) (n' := 1) rfl rfl (fun h => by cases h) ?_)
                            refine un (a1 rfl ?_)
                            refine dnil ?_
                            refine Sv.ret ?_
                            replace h := Option.some.inj h
                            subst h
                            exact ⟨_, .refl _, _, rfl, ⟨upd (fun _ => none) 0 (some (lstV false 0 1 ([[110, 111, 119, 114, 97, 112], [119, 114, 97, 112]] : List (List UInt8)).length)), (upd (fun _ => none) 0 (lstB false 1 (([[110, 111, 119, 114, 97, 112], [119, 114, 97, 112]] : List (List UInt8)).map eStr))), 1⟩, (lstV false 0 1 ([[110, 111, 119, 114, 97, 112], [119, 114, 97, 112]] : List (List UInt8)).length), weak_canon2 [0] [0] (by decide) (by decide) (fun b h => absurd h (Nat.not_lt_zero _)) (.cons (by decide) .nil) (.cons rfl (.c (lstC_ren rfl (by decide))) .nil) (.row (by decide) rfl (fr_map fun _ => rfl) .nil), rfl, false, (fun h => by cases h), rfl, rfl, rfl⟩
                          · replace h := ifF hc13 h
                            refine Sv.seq ?_
                            refine Sv.region ?_
                            refine un (a1 (v := (B (decide (p_ = 47)))) rfl ?_)
                            refine un (a1 rfl ?_)
                            refine dnil ?_
                            refine Sv.cond (b := decide (p_ = 47)) rfl (fun hc14 => ?_) (fun hc14 => ?_)
                            · replace h := ifT hc14 h
                              refine Sv.seq ?_
                              refine Sv.region ?_
                              refine un (a2v (v := (lstV false 0 1 clerestoryref2_PropKeys_t9.length)) (h' := upd _ 0 (lstB false 1 (clerestoryref2_PropKeys_t9.map eStr))) (n' := 1) rfl rfl (fun h => by cases h) ?_)
                              refine un (a1 rfl ?_)
                              refine dnil ?_
                              refine Sv.ret ?_
                              replace h := Option.some.inj h
                              subst h
                              exact ⟨_, .refl _, _, rfl, ⟨upd (fun _ => none) 0 (some (lstV false 0 1 clerestoryref2_PropKeys_t9.length)), (upd (fun _ => none) 0 (lstB false 1 (clerestoryref2_PropKeys_t9.map eStr))), 1⟩, (lstV false 0 1 clerestoryref2_PropKeys_t9.length), weak_canon2 [0] [0] (by decide) (by decide) (fun b h => absurd h (Nat.not_lt_zero _)) (.cons (by decide) .nil) (.cons rfl (.c (lstC_ren rfl (by decide))) .nil) (.row (by decide) rfl (fr_map fun _ => rfl) .nil), rfl, false, (fun h => by cases h), rfl, rfl, rfl⟩
                            · replace h := ifF hc14 h
                              refine Sv.seq ?_
                              refine Sv.region ?_
                              refine un (a1 (v := (B (decide (p_ = 48)))) rfl ?_)
                              refine un (a1 rfl ?_)
                              refine dnil ?_
                              refine Sv.cond (b := decide (p_ = 48)) rfl (fun hc15 => ?_) (fun hc15 => ?_)
                              · replace h := ifT hc15 h
                                refine Sv.seq ?_
                                refine Sv.region ?_
                                refine un (a2v (v := (lstV false 0 1 clerestoryref2_PropKeys_t10.length)) (h' := upd _ 0 (lstB false 1 (clerestoryref2_PropKeys_t10.map eStr))) (n' := 1) rfl rfl (fun h => by cases h) ?_)
                                refine un (a1 rfl ?_)
                                refine dnil ?_
                                refine Sv.ret ?_
                                replace h := Option.some.inj h
                                subst h
                                exact ⟨_, .refl _, _, rfl, ⟨upd (fun _ => none) 0 (some (lstV false 0 1 clerestoryref2_PropKeys_t10.length)), (upd (fun _ => none) 0 (lstB false 1 (clerestoryref2_PropKeys_t10.map eStr))), 1⟩, (lstV false 0 1 clerestoryref2_PropKeys_t10.length), weak_canon2 [0] [0] (by decide) (by decide) (fun b h => absurd h (Nat.not_lt_zero _)) (.cons (by decide) .nil) (.cons rfl (.c (lstC_ren rfl (by decide))) .nil) (.row (by decide) rfl (fr_map fun _ => rfl) .nil), rfl, false, (fun h => by cases h), rfl, rfl, rfl⟩
                              · replace h := ifF hc15 h
                                refine Sv.seq ?_
                                refine Sv.region ?_
                                refine un (a1 (v := (B (decide (p_ = 49)))) rfl ?_)
                                refine un (a1 rfl ?_)
                                refine dnil ?_
                                refine Sv.cond (b := decide (p_ = 49)) rfl (fun hc16 => ?_) (fun hc16 => ?_)
                                · replace h := ifT hc16 h
                                  refine Sv.seq ?_
                                  refine Sv.region ?_
                                  refine un (a2v (v := (lstV false 0 1 clerestoryref2_PropKeys_t10.length)) (h' := upd _ 0 (lstB false 1 (clerestoryref2_PropKeys_t10.map eStr))) (n' := 1) rfl rfl (fun h => by cases h) ?_)
                                  refine un (a1 rfl ?_)
                                  refine dnil ?_
                                  refine Sv.ret ?_
                                  replace h := Option.some.inj h
                                  subst h
                                  exact ⟨_, .refl _, _, rfl, ⟨upd (fun _ => none) 0 (some (lstV false 0 1 clerestoryref2_PropKeys_t10.length)), (upd (fun _ => none) 0 (lstB false 1 (clerestoryref2_PropKeys_t10.map eStr))), 1⟩, (lstV false 0 1 clerestoryref2_PropKeys_t10.length), weak_canon2 [0] [0] (by decide) (by decide) (fun b h => absurd h (Nat.not_lt_zero _)) (.cons (by decide) .nil) (.cons rfl (.c (lstC_ren rfl (by decide))) .nil) (.row (by decide) rfl (fr_map fun _ => rfl) .nil), rfl, false, (fun h => by cases h), rfl, rfl, rfl⟩
                                · replace h := ifF hc16 h
                                  refine Sv.seq ?_
                                  refine Sv.region ?_
                                  refine un (a1 (v := (B (decide (p_ = 55)))) rfl ?_)
                                  refine un (a1 rfl ?_)
                                  refine dnil ?_
                                  refine Sv.cond (b := decide (p_ = 55)) rfl (fun hc17 => ?_) (fun hc17 => ?_)
                                  · replace h := ifT hc17 h
                                    refine Sv.seq ?_
                                    refine Sv.region ?_
                                    refine un (a2v (v := (lstV false 0 1 ([[97, 117, 116, 111], [102, 105, 120, 101, 100]] : List (List UInt8)).length)) (h' := upd _ 0 (lstB false 1 (([[97, 117, 116, 111], [102, 105, 120, 101, 100]] : List (List UInt8)).map eStr))) (n' := 1) rfl rfl (fun h => by cases h) ?_)
                                    refine un (a1 rfl ?_)
                                    refine dnil ?_
                                    refine Sv.ret ?_
                                    replace h := Option.some.inj h
                                    subst h
                                    exact ⟨_, .refl _, _, rfl, ⟨upd (fun _ => none) 0 (some (lstV false 0 1 ([[97, 117, 116, 111], [102, 105, 120, 101, 100]] : List (List UInt8)).length)), (upd (fun _ => none) 0 (lstB false 1 (([[97, 117, 116, 111], [102, 105, 120, 101, 100]] : List (List UInt8)).map eStr))), 1⟩, (lstV false 0 1 ([[97, 117, 116, 111], [102, 105, 120, 101, 100]] : List (List UInt8)).length), weak_canon2 [0] [0] (by decide) (by decide) (fun b h => absurd h (Nat.not_lt_zero _)) (.cons (by decide) .nil) (.cons rfl (.c (lstC_ren rfl (by decide))) .nil) (.row (by decide) rfl (fr_map fun _ => rfl) .nil), rfl, false, (fun h => by cases h), rfl, rfl, rfl⟩
                                  · replace h := ifF hc17 h
                                    refine Sv.seq ?_
                                    refine Sv.region ?_
                                    refine un (a1 (v := (B (decide (p_ = 57)))) rfl ?_)
                                    refine un (a1 rfl ?_)
                                    refine dnil ?_
                                    refine Sv.cond (b := decide (p_ = 57)) rfl (fun hc18 => ?_) (fun hc18 => ?_)
                                    · replace h := ifT hc18 h
                                      refine Sv.seq ?_
                                      refine Sv.region ?_
                                      refine un (a2v (v := (lstV false 0 1 clerestoryref2_PropKeys_t11.length)) (h' := upd _ 0 (lstB false 1 (clerestoryref2_PropKeys_t11.map eStr))) (n' := 1) rfl rfl (fun h => by cases h) ?_)
                                      refine un (a1 rfl ?_)
                                      refine dnil ?_
                                      refine Sv.ret ?_
                                      replace h := Option.some.inj h
                                      subst h
                                      exact ⟨_, .refl _, _, rfl, ⟨upd (fun _ => none) 0 (some (lstV false 0 1 clerestoryref2_PropKeys_t11.length)), (upd (fun _ => none) 0 (lstB false 1 (clerestoryref2_PropKeys_t11.map eStr))), 1⟩, (lstV false 0 1 clerestoryref2_PropKeys_t11.length), weak_canon2 [0] [0] (by decide) (by decide) (fun b h => absurd h (Nat.not_lt_zero _)) (.cons (by decide) .nil) (.cons rfl (.c (lstC_ren rfl (by decide))) .nil) (.row (by decide) rfl (fr_map fun _ => rfl) .nil), rfl, false, (fun h => by cases h), rfl, rfl, rfl⟩
                                    · replace h := ifF hc18 h
                                      refine Sv.seq ?_
                                      refine Sv.region ?_
                                      refine un (a1 (v := (B (decide (p_ = 58)))) rfl ?_)
                                      refine un (a1 rfl ?_)
                                      refine dnil ?_
                                      refine Sv.cond (b := decide (p_ = 58)) rfl (fun hc19 => ?_) (fun hc19 => ?_)
                                      · replace h := ifT hc19 h
                                        refine Sv.seq ?_
                                        refine Sv.region ?_
                                        refine un (a2v (v := (lstV false 0 1 ([[97, 117, 116, 111], [110, 111, 110, 101]] : List (List UInt8)).length)) (h' := upd _ 0 (lstB false 1 (([[97, 117, 116, 111], [110, 111, 110, 101]] : List (List UInt8)).map eStr))) (n' := 1) rfl rfl (fun h => by cases h) ?_)
                                        refine un (a1 rfl ?_)
                                        refine dnil ?_
                                        refine Sv.ret ?_
                                        replace h := Option.some.inj h
                                        subst h
                                        exact ⟨_, .refl _, _, rfl, ⟨upd (fun _ => none) 0 (some (lstV false 0 1 ([[97, 117, 116, 111], [110, 111, 110, 101]] : List (List UInt8)).length)), (upd (fun _ => none) 0 (lstB false 1 (([[97, 117, 116, 111], [110, 111, 110, 101]] : List (List UInt8)).map eStr))), 1⟩, (lstV false 0 1 ([[97, 117, 116, 111], [110, 111, 110, 101]] : List (List UInt8)).length), weak_canon2 [0] [0] (by decide) (by decide) (fun b h => absurd h (Nat.not_lt_zero _)) (.cons (by decide) .nil) (.cons rfl (.c (lstC_ren rfl (by decide))) .nil) (.row (by decide) rfl (fr_map fun _ => rfl) .nil), rfl, false, (fun h => by cases h), rfl, rfl, rfl⟩
                                      · replace h := ifF hc19 h
                                        refine Sv.skip ?_
                                        refine Sv.seq ?_
                                        refine Sv.region ?_
                                        refine un (a1 rfl ?_)
                                        refine dnil ?_
                                        refine Sv.ret ?_
                                        replace h := Option.some.inj h
                                        subst h
                                        exact ⟨_, .refl _, _, rfl, ⟨upd (fun _ => none) 0 (some (lstV true 0 1 ([] : List (List UInt8)).length)), (upd (fun _ => none) 0 (lstB true 1 (([] : List (List UInt8)).map eStr))), 1⟩, (lstV true 0 1 ([] : List (List UInt8)).length), weak_canon2 [1000] [0] (by decide) (by decide) (fun b h => absurd h (Nat.not_lt_zero _)) (.cons (by decide) .nil) (.cons rfl (.c (.same rfl)) .nil) (.non (by decide) .nil), rfl, true, (fun _ => rfl), rfl, rfl, rfl⟩
end Go.Proofs.YtagfmlkihindaaaDoorBv
