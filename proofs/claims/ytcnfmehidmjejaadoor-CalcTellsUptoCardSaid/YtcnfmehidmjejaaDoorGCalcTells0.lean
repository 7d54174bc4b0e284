/- Printed by a program of mine (bgen.py): plain functions, and the walks that show that the code comes to what they answer. -/
import Derived.Test.YtcnfmehidmjejaaDoorRows
import Derived.Test.YtcnfmehidmjejaaDoorBv40
import Derived.Test.YtcnfmehidmjejaaDoorBv53
import Derived.Test.YtcnfmehidmjejaaDoorBv49
import Derived.Test.YtcnfmehidmjejaaDoorBv54
import Derived.Test.YtcnfmehidmjejaaDoorBv30
import Derived.Test.YtcnfmehidmjejaaDoorShelf
import Derived.Test.YtcnfmehidmjejaaDoorBld
import Derived.Test.YtcnfmehidmjejaaDoorBv36
import Derived.Test.YtcnfmehidmjejaaDoorBv33
namespace Go.Proofs.YtcnfmehidmjejaaDoorBv
open Go
set_option linter.unusedVariables false
set_option linter.unusedSimpArgs false
set_option maxRecDepth 100000
theorem hmix : Tryd.prog.follows .mixedOrders = true := by kernel_rfl
structure TSDim where
  Num : Int
  Unit : (List UInt8)
def e_TSDim (x : TSDim) : List Cel := [cI x.Num, .str x.Unit]
structure TSTerm where
  Kind : Int
  Dim : TSDim
  Subs : (List Raw)
def e_TSTerm (x : TSTerm) : List Cel := [cI x.Kind, cI x.Dim.Num, .str x.Dim.Unit, .ro false 4 (x.Subs.map eRaw)]
structure TSToken where
  Kind : Int
  Raw : (List UInt8)
  Value : (List UInt8)
  Num : Int
def e_TSToken (x : TSToken) : List Cel := [cI x.Kind, .str x.Raw, .str x.Value, cI x.Num]
structure Treader where
  f_l : (List TSToken)
  f_n : Int
  f_gapped : Bool
def e_Treader (x : Treader) : List Cel := [.ro false 4 (x.f_l.map e_TSToken), cI x.f_n, cB x.f_gapped]
def d_TSTerm : List Cel → Option TSTerm
  | [c0, c1, c2, c3] =>
    (dI c0).bind fun a0 =>
    (dI c1).bind fun a1 =>
    (dS c2).bind fun a2 =>
    ((dSl 4 dRaw) c3).bind fun a3 =>
    some (⟨a0, (⟨a1, a2⟩ : TSDim), a3⟩ : TSTerm)
  | _ => none
theorem d_TSTerm_s {r : List Cel} {x : TSTerm} (h : d_TSTerm r = some x) : r = e_TSTerm x := by
  unfold d_TSTerm at h
  split at h
  · obtain ⟨a0, h0, h⟩ := Option.bind_eq_some_iff.1 h
    obtain ⟨a1, h1, h⟩ := Option.bind_eq_some_iff.1 h
    obtain ⟨a2, h2, h⟩ := Option.bind_eq_some_iff.1 h
    obtain ⟨a3, h3, h⟩ := Option.bind_eq_some_iff.1 h
    cases h
    rw [dI_s h0, dI_s h1, dS_s h2, dSl_s (fun _ _ h => dRaw_s h) h3]
    rfl
  · cases h
theorem d_TSTerm_c (x : TSTerm) : d_TSTerm (e_TSTerm x) = some x := by
  have h0 : dI (cI x.Kind) = some x.Kind := (fun _ => rfl) _
  have h1 : dI (cI x.Dim.Num) = some x.Dim.Num := (fun _ => rfl) _
  have h2 : dS (.str x.Dim.Unit) = some x.Dim.Unit := (fun _ => rfl) _
  have h3 : (dSl 4 dRaw) (.ro false 4 (x.Subs.map eRaw)) = some x.Subs := (dSl_c dRaw_c) _
  show ((dI (cI x.Kind)).bind fun a0 =>
(dI (cI x.Dim.Num)).bind fun a1 =>
(dS (.str x.Dim.Unit)).bind fun a2 =>
((dSl 4 dRaw) (.ro false 4 (x.Subs.map eRaw))).bind fun a3 =>
some (⟨a0, (⟨a1, a2⟩ : TSDim), a3⟩ : TSTerm)) = some x
  rw [h0, Option.bind_some, h1, Option.bind_some, h2, Option.bind_some, h3, Option.bind_some]
def gl0 : List (List UInt8) := [[], [112, 120], [101, 109], [114, 101, 109], [118, 119], [118, 104], [37]]
def g0_c : List Cel := [.ro false 1 (gl0.map eStr)]
def g2_c : List Cel := [.val (.int .u64 1), .val (.int .u64 10), .val (.int .u64 100), .val (.int .u64 1000), .val (.int .u64 10000), .val (.int .u64 100000), .val (.int .u64 1000000), .val (.int .u64 10000000), .val (.int .u64 100000000), .val (.int .u64 1000000000), .val (.int .u64 10000000000), .val (.int .u64 100000000000), .val (.int .u64 1000000000000), .val (.int .u64 10000000000000), .val (.int .u64 100000000000000), .val (.int .u64 1000000000000000), .val (.int .u64 10000000000000000), .val (.int .u64 100000000000000000), .val (.int .u64 1000000000000000000), .val (.int .u64 10000000000000000000)]
def g3_c : List Cel := [.val (.int .u8 240), .val (.int .u8 240), .val (.int .u8 240), .val (.int .u8 240), .val (.int .u8 240), .val (.int .u8 240), .val (.int .u8 240), .val (.int .u8 240), .val (.int .u8 240), .val (.int .u8 240), .val (.int .u8 240), .val (.int .u8 240), .val (.int .u8 240), .val (.int .u8 240), .val (.int .u8 240), .val (.int .u8 240), .val (.int .u8 240), .val (.int .u8 240), .val (.int .u8 240), .val (.int .u8 240), .val (.int .u8 240), .val (.int .u8 240), .val (.int .u8 240), .val (.int .u8 240), .val (.int .u8 240), .val (.int .u8 240), .val (.int .u8 240), .val (.int .u8 240), .val (.int .u8 240), .val (.int .u8 240), .val (.int .u8 240), .val (.int .u8 240), .val (.int .u8 240), .val (.int .u8 240), .val (.int .u8 240), .val (.int .u8 240), .val (.int .u8 240), .val (.int .u8 240), .val (.int .u8 240), .val (.int .u8 240), .val (.int .u8 240), .val (.int .u8 240), .val (.int .u8 240), .val (.int .u8 240), .val (.int .u8 240), .val (.int .u8 240), .val (.int .u8 240), .val (.int .u8 240), .val (.int .u8 240), .val (.int .u8 240), .val (.int .u8 240), .val (.int .u8 240), .val (.int .u8 240), .val (.int .u8 240), .val (.int .u8 240), .val (.int .u8 240), .val (.int .u8 240), .val (.int .u8 240), .val (.int .u8 240), .val (.int .u8 240), .val (.int .u8 240), .val (.int .u8 240), .val (.int .u8 240), .val (.int .u8 240), .val (.int .u8 240), .val (.int .u8 240), .val (.int .u8 240), .val (.int .u8 240), .val (.int .u8 240), .val (.int .u8 240), .val (.int .u8 240), .val (.int .u8 240), .val (.int .u8 240), .val (.int .u8 240), .val (.int .u8 240), .val (.int .u8 240), .val (.int .u8 240), .val (.int .u8 240), .val (.int .u8 240), .val (.int .u8 240), .val (.int .u8 240), .val (.int .u8 240), .val (.int .u8 240), .val (.int .u8 240), .val (.int .u8 240), .val (.int .u8 240), .val (.int .u8 240), .val (.int .u8 240), .val (.int .u8 240), .val (.int .u8 240), .val (.int .u8 240), .val (.int .u8 240), .val (.int .u8 240), .val (.int .u8 240), .val (.int .u8 240), .val (.int .u8 240), .val (.int .u8 240), .val (.int .u8 240), .val (.int .u8 240), .val (.int .u8 240), .val (.int .u8 240), .val (.int .u8 240), .val (.int .u8 240), .val (.int .u8 240), .val (.int .u8 240), .val (.int .u8 240), .val (.int .u8 240), .val (.int .u8 240), .val (.int .u8 240), .val (.int .u8 240), .val (.int .u8 240), .val (.int .u8 240), .val (.int .u8 240), .val (.int .u8 240), .val (.int .u8 240), .val (.int .u8 240), .val (.int .u8 240), .val (.int .u8 240), .val (.int .u8 240), .val (.int .u8 240), .val (.int .u8 240), .val (.int .u8 240), .val (.int .u8 240), .val (.int .u8 240), .val (.int .u8 240), .val (.int .u8 240), .val (.int .u8 240), .val (.int .u8 240), .val (.int .u8 241), .val (.int .u8 241), .val (.int .u8 241), .val (.int .u8 241), .val (.int .u8 241), .val (.int .u8 241), .val (.int .u8 241), .val (.int .u8 241), .val (.int .u8 241), .val (.int .u8 241), .val (.int .u8 241), .val (.int .u8 241), .val (.int .u8 241), .val (.int .u8 241), .val (.int .u8 241), .val (.int .u8 241), .val (.int .u8 241), .val (.int .u8 241), .val (.int .u8 241), .val (.int .u8 241), .val (.int .u8 241), .val (.int .u8 241), .val (.int .u8 241), .val (.int .u8 241), .val (.int .u8 241), .val (.int .u8 241), .val (.int .u8 241), .val (.int .u8 241), .val (.int .u8 241), .val (.int .u8 241), .val (.int .u8 241), .val (.int .u8 241), .val (.int .u8 241), .val (.int .u8 241), .val (.int .u8 241), .val (.int .u8 241), .val (.int .u8 241), .val (.int .u8 241), .val (.int .u8 241), .val (.int .u8 241), .val (.int .u8 241), .val (.int .u8 241), .val (.int .u8 241), .val (.int .u8 241), .val (.int .u8 241), .val (.int .u8 241), .val (.int .u8 241), .val (.int .u8 241), .val (.int .u8 241), .val (.int .u8 241), .val (.int .u8 241), .val (.int .u8 241), .val (.int .u8 241), .val (.int .u8 241), .val (.int .u8 241), .val (.int .u8 241), .val (.int .u8 241), .val (.int .u8 241), .val (.int .u8 241), .val (.int .u8 241), .val (.int .u8 241), .val (.int .u8 241), .val (.int .u8 241), .val (.int .u8 241), .val (.int .u8 241), .val (.int .u8 241), .val (.int .u8 2), .val (.int .u8 2), .val (.int .u8 2), .val (.int .u8 2), .val (.int .u8 2), .val (.int .u8 2), .val (.int .u8 2), .val (.int .u8 2), .val (.int .u8 2), .val (.int .u8 2), .val (.int .u8 2), .val (.int .u8 2), .val (.int .u8 2), .val (.int .u8 2), .val (.int .u8 2), .val (.int .u8 2), .val (.int .u8 2), .val (.int .u8 2), .val (.int .u8 2), .val (.int .u8 2), .val (.int .u8 2), .val (.int .u8 2), .val (.int .u8 2), .val (.int .u8 2), .val (.int .u8 2), .val (.int .u8 2), .val (.int .u8 2), .val (.int .u8 2), .val (.int .u8 2), .val (.int .u8 2), .val (.int .u8 19), .val (.int .u8 3), .val (.int .u8 3), .val (.int .u8 3), .val (.int .u8 3), .val (.int .u8 3), .val (.int .u8 3), .val (.int .u8 3), .val (.int .u8 3), .val (.int .u8 3), .val (.int .u8 3), .val (.int .u8 3), .val (.int .u8 3), .val (.int .u8 35), .val (.int .u8 3), .val (.int .u8 3), .val (.int .u8 52), .val (.int .u8 4), .val (.int .u8 4), .val (.int .u8 4), .val (.int .u8 68), .val (.int .u8 241), .val (.int .u8 241), .val (.int .u8 241), .val (.int .u8 241), .val (.int .u8 241), .val (.int .u8 241), .val (.int .u8 241), .val (.int .u8 241), .val (.int .u8 241), .val (.int .u8 241), .val (.int .u8 241)]
def g4_c : List Cel := [.val (.int .u8 128), .val (.int .u8 191), .val (.int .u8 160), .val (.int .u8 191), .val (.int .u8 128), .val (.int .u8 159), .val (.int .u8 144), .val (.int .u8 191), .val (.int .u8 128), .val (.int .u8 143), .val (.int .u8 0), .val (.int .u8 0), .val (.int .u8 0), .val (.int .u8 0), .val (.int .u8 0), .val (.int .u8 0), .val (.int .u8 0), .val (.int .u8 0), .val (.int .u8 0), .val (.int .u8 0), .val (.int .u8 0), .val (.int .u8 0), .val (.int .u8 0), .val (.int .u8 0), .val (.int .u8 0), .val (.int .u8 0), .val (.int .u8 0), .val (.int .u8 0), .val (.int .u8 0), .val (.int .u8 0), .val (.int .u8 0), .val (.int .u8 0)]
def g5_c : List Cel := [.val (.int .u8 0), .val (.int .u8 1), .val (.int .u8 28), .val (.int .u8 2), .val (.int .u8 29), .val (.int .u8 14), .val (.int .u8 24), .val (.int .u8 3), .val (.int .u8 30), .val (.int .u8 22), .val (.int .u8 20), .val (.int .u8 15), .val (.int .u8 25), .val (.int .u8 17), .val (.int .u8 4), .val (.int .u8 8), .val (.int .u8 31), .val (.int .u8 27), .val (.int .u8 13), .val (.int .u8 23), .val (.int .u8 21), .val (.int .u8 19), .val (.int .u8 16), .val (.int .u8 7), .val (.int .u8 26), .val (.int .u8 12), .val (.int .u8 18), .val (.int .u8 6), .val (.int .u8 11), .val (.int .u8 5), .val (.int .u8 10), .val (.int .u8 9)]
def g6_c : List Cel := [.val (.int .u8 0), .val (.int .u8 1), .val (.int .u8 56), .val (.int .u8 2), .val (.int .u8 57), .val (.int .u8 49), .val (.int .u8 28), .val (.int .u8 3), .val (.int .u8 61), .val (.int .u8 58), .val (.int .u8 42), .val (.int .u8 50), .val (.int .u8 38), .val (.int .u8 29), .val (.int .u8 17), .val (.int .u8 4), .val (.int .u8 62), .val (.int .u8 47), .val (.int .u8 59), .val (.int .u8 36), .val (.int .u8 45), .val (.int .u8 43), .val (.int .u8 51), .val (.int .u8 22), .val (.int .u8 53), .val (.int .u8 39), .val (.int .u8 33), .val (.int .u8 30), .val (.int .u8 24), .val (.int .u8 18), .val (.int .u8 12), .val (.int .u8 5), .val (.int .u8 63), .val (.int .u8 55), .val (.int .u8 48), .val (.int .u8 27), .val (.int .u8 60), .val (.int .u8 41), .val (.int .u8 37), .val (.int .u8 16), .val (.int .u8 46), .val (.int .u8 35), .val (.int .u8 44), .val (.int .u8 21), .val (.int .u8 52), .val (.int .u8 32), .val (.int .u8 23), .val (.int .u8 11), .val (.int .u8 54), .val (.int .u8 26), .val (.int .u8 40), .val (.int .u8 15), .val (.int .u8 34), .val (.int .u8 20), .val (.int .u8 31), .val (.int .u8 10), .val (.int .u8 25), .val (.int .u8 14), .val (.int .u8 19), .val (.int .u8 9), .val (.int .u8 13), .val (.int .u8 8), .val (.int .u8 7), .val (.int .u8 6)]
/-- what the listed package variables hold -/
def GG (mL : Int) : Glob := fun g => if g = 0 then g0_c else if g = 1 then [.val (.int .i64 mL)] else if g = 2 then g2_c else if g = 3 then g3_c else if g = 4 then g4_c else if g = 5 then g5_c else if g = 6 then g6_c else []
noncomputable abbrev strings_TrimLeft (s_ : (List UInt8)) (cutset_ : (List UInt8)) : Option (List UInt8) := trimLeft? s_ cutset_
/-- strings.TrimLeft, by the contract of the shelf -/
theorem strings_TrimLeft_ok {mL : Int} {s_ : (List UInt8)} {cutset_ : (List UInt8)} {r : (List UInt8)} (h : strings_TrimLeft s_ cutset_ = some r) : CPure Tryd.prog (GG mL) 42 [(S s_), (S cutset_)] (S r) := trimLeft_ok Tryd.lays161 (by kernel_rfl) h
def a73_c0 : ACode := .ret
def a73 : AFunc := ⟨2, [(.tmp 4)], (.seq (.region [⟨(some 4), (.mov (.const (.c (.val (.bool false))))), none⟩])
 (.seq (.region [⟨(some 5), (.mov (.tmp 0)), none⟩, ⟨(some 6), (.lenS (.tmp 5)), none⟩, ⟨(some 7), (.mov (.tmp 1)), none⟩, ⟨(some 8), (.lenS (.tmp 7)), none⟩, ⟨(some 9), (.bin .geq (.tmp 6) (.tmp 8)), none⟩, ⟨(some 10), (.mov (.tmp 9)), none⟩, ⟨(some 11), (.mov (.tmp 0)), (some (10, true))⟩, ⟨(some 12), (.mov (.tmp 1)), (some (10, true))⟩, ⟨(some 13), (.lenS (.tmp 12)), (some (10, true))⟩, ⟨(some 14), (.slStr (.tmp 11) none (some (.tmp 13))), (some (10, true))⟩, ⟨(some 15), (.mov (.tmp 1)), (some (10, true))⟩, ⟨(some 16), (.bin .eql (.tmp 14) (.tmp 15)), (some (10, true))⟩, ⟨(some 17), (.pick (.tmp 10) (.tmp 16) (.const (.c (.val (.bool false))))), none⟩, ⟨(some 4), (.mov (.tmp 17)), none⟩])
 a73_c0))⟩
set_option maxRecDepth 100000 in
theorem c73 : compFunc Tryd.prog 73 = some a73 := by kernel_rfl
def internal_stringslite_HasPrefix_post (r : Bool) : AV → Heap → Nat → Prop := fun v h' n' => v = (B r) ∧ (h' = (fun _ => none)) ∧ n' = 0
noncomputable def internal_stringslite_HasPrefix_j1 (v4 : Bool) : Option Bool :=
  some v4
theorem internal_stringslite_HasPrefix_j1_ok {mL : Int} {v4 : Bool} {o : Bool} (h : internal_stringslite_HasPrefix_j1 v4 = some o) :
    Sv Tryd.prog (GG mL) 0 a73_c0 (Ends a73.results 0 (internal_stringslite_HasPrefix_post o)) ⟨(upd (fun _ => none) 4 (some (B v4))), (fun _ => none), 0⟩ := by
  unfold internal_stringslite_HasPrefix_j1 at h
  refine Sv.ret ?_
  replace h := Option.some.inj h
  subst h
  exact ⟨_, .refl _, _, rfl, ⟨upd (fun _ => none) 0 (some (B v4)), (fun _ => none), 0⟩, (B v4), weak_canon [] rfl List.nodup_nil (Nat.le_refl _) (fun b h => absurd h (Nat.not_lt_zero _)) (.cons rfl (avAs_free rfl) .nil) .nil, rfl, rfl, rfl, rfl⟩
/-- internal/stringslite.HasPrefix -/
noncomputable def internal_stringslite_HasPrefix (s_ : (List UInt8)) (prefix_ : (List UInt8)) : Option Bool :=
  if decide ((prefix_.length : Int) ≤ (s_.length : Int)) then
    (sub? s_ 0 (prefix_.length : Int)).bind fun r_ =>
    internal_stringslite_HasPrefix_j1 (decide (r_ = prefix_))
  else
    internal_stringslite_HasPrefix_j1 false
theorem internal_stringslite_HasPrefix_ok {mL : Int} {s_ : (List UInt8)} {prefix_ : (List UInt8)} {r : Bool} (h : internal_stringslite_HasPrefix s_ prefix_ = some r) : CPure Tryd.prog (GG mL) 73 [(S s_), (S prefix_)] (B r) := by
  refine acalls_of_sv hmix c73 (R := internal_stringslite_HasPrefix_post r) ?_
  unfold internal_stringslite_HasPrefix at h
  refine Sv.seq ?_
  refine Sv.region ?_
  refine un (a1 rfl ?_)
  refine dnil ?_
  refine Sv.seq ?_
  refine Sv.region ?_
  refine un (a1 rfl ?_)
  refine un (a1 (v := (I (s_.length : Int))) rfl ?_)
  refine un (a1 rfl ?_)
  refine un (a1 (v := (I (prefix_.length : Int))) rfl ?_)
  refine un (a1 (v := (B (decide ((prefix_.length : Int) ≤ (s_.length : Int))))) rfl ?_)
  refine un (a1 rfl ?_)
  refine split2 (fun hc1 => ?_) (fun hc1 => ?_)
  · replace h := ifT hc1 h
    refine gt rfl (a1 rfl ?_)
    refine gt rfl (a1 rfl ?_)
    refine gt rfl (a1 (v := (I (prefix_.length : Int))) rfl ?_)
    obtain ⟨r_, hx1, h⟩ := bnd h
    refine gt rfl (a1 (v := (S r_)) (s_slStr rfl rfl rfl hx1) ?_)
    refine gt rfl (a1 rfl ?_)
    refine gt rfl (a1 (v := (B (decide (r_ = prefix_)))) rfl ?_)
    refine un (a1 (v := (B (decide (r_ = prefix_)))) rfl ?_)
    refine un (a1 rfl ?_)
    refine dnil ?_
    exact Sv.weak (weak_canon [] rfl (by decide) (by decide) (fun b h => absurd h (Nat.not_lt_zero _)) (.cons rfl (avAs_free rfl) .nil) .nil) (internal_stringslite_HasPrefix_j1_ok h)
  · replace h := ifF hc1 h
    refine gs rfl rfl ?_
    refine gs rfl rfl ?_
    refine gs rfl rfl ?_
    refine gs rfl rfl ?_
    refine gs rfl rfl ?_
    refine gs rfl rfl ?_
    refine un (a1 (v := (B false)) rfl ?_)
    refine un (a1 rfl ?_)
    refine dnil ?_
    exact Sv.weak (weak_canon [] rfl (by decide) (by decide) (fun b h => absurd h (Nat.not_lt_zero _)) (.cons rfl (avAs_free rfl) .nil) .nil) (internal_stringslite_HasPrefix_j1_ok h)
def a64 : AFunc := ⟨2, [(.tmp 4), (.tmp 5)], (.seq (.region [⟨(some 4), (.mov (.const (.c (.str [])))), none⟩, ⟨(some 5), (.mov (.const (.c (.val (.bool false))))), none⟩])
 (.seq (.seq (.region [⟨(some 6), (.mov (.tmp 0)), none⟩, ⟨(some 7), (.mov (.tmp 1)), none⟩, ⟨(some 8), (.call 73 [(.tmp 6), (.tmp 7)]), none⟩, ⟨(some 9), (.un .not (.tmp 8)), none⟩])
 (.cond (.tmp 9) (.seq (.region [⟨(some 10), (.mov (.tmp 0)), none⟩, ⟨(some 4), (.mov (.tmp 10)), none⟩, ⟨(some 5), (.mov (.const (.c (.val (.bool false))))), none⟩])
 .ret) .skip))
 (.seq (.region [⟨(some 11), (.mov (.tmp 0)), none⟩, ⟨(some 12), (.mov (.tmp 1)), none⟩, ⟨(some 13), (.lenS (.tmp 12)), none⟩, ⟨(some 14), (.slStr (.tmp 11) (some (.tmp 13)) none), none⟩, ⟨(some 4), (.mov (.tmp 14)), none⟩, ⟨(some 5), (.mov (.const (.c (.val (.bool true))))), none⟩])
 .ret)))⟩
set_option maxRecDepth 100000 in
theorem c64 : compFunc Tryd.prog 64 = some a64 := by kernel_rfl
def internal_stringslite_CutPrefix_post (r : ((List UInt8) × Bool)) : AV → Heap → Nat → Prop := fun v h' n' => v = (.tup [(S r.1), (B r.2)]) ∧ (h' = (fun _ => none)) ∧ n' = 0
/-- internal/stringslite.CutPrefix -/
noncomputable def internal_stringslite_CutPrefix (s_ : (List UInt8)) (prefix_ : (List UInt8)) : Option ((List UInt8) × Bool) :=
  (internal_stringslite_HasPrefix s_ prefix_).bind fun r_ =>
  if (!r_) then
    some (s_, false)
  else
    (sub? s_ (prefix_.length : Int) (s_.length : Int)).bind fun r_1 =>
    some (r_1, true)
theorem internal_stringslite_CutPrefix_ok {mL : Int} {s_ : (List UInt8)} {prefix_ : (List UInt8)} {r : ((List UInt8) × Bool)} (h : internal_stringslite_CutPrefix s_ prefix_ = some r) : CPure Tryd.prog (GG mL) 64 [(S s_), (S prefix_)] (.tup [(S r.1), (B r.2)]) := by
  refine acalls_of_sv hmix c64 (R := internal_stringslite_CutPrefix_post r) ?_
  unfold internal_stringslite_CutPrefix at h
  refine Sv.seq ?_
  refine Sv.region ?_
  refine un (a1 rfl ?_)
  refine un (a1 rfl ?_)
  refine dnil ?_
  refine Sv.seq ?_
  refine Sv.seq ?_
  refine Sv.region ?_
  refine un (a1 rfl ?_)
  refine un (a1 rfl ?_)
  obtain ⟨r_, hr1, h⟩ := bnd h
  refine un (ac_pure (internal_stringslite_HasPrefix_ok hr1) rfl rfl rfl ?_)
  refine un (a1 (v := (B (!r_))) rfl ?_)
  refine dnil ?_
  refine Sv.cond (b := (!r_)) rfl (fun hc1 => ?_) (fun hc1 => ?_)
  · replace h := ifT hc1 h
    refine Sv.seq ?_
    refine Sv.region ?_
    refine un (a1 rfl ?_)
    refine un (a1 rfl ?_)
    refine un (a1 rfl ?_)
    refine dnil ?_
    refine Sv.ret ?_
    replace h := Option.some.inj h
    subst h
    exact ⟨_, .refl _, _, rfl, ⟨upd (fun _ => none) 0 (some (.tup [(S s_), (B false)])), (fun _ => none), 0⟩, (.tup [(S s_), (B false)]), weak_canon [] rfl List.nodup_nil (Nat.le_refl _) (fun b h => absurd h (Nat.not_lt_zero _)) (.cons rfl (avAs_tup (.cons (avAs_free rfl) (.cons (avAs_free rfl) .nil))) .nil) .nil, rfl, rfl, rfl, rfl⟩
  · replace h := ifF hc1 h
    refine Sv.skip ?_
    refine Sv.seq ?_
    refine Sv.region ?_
    refine un (a1 rfl ?_)
    refine un (a1 rfl ?_)
    refine un (a1 (v := (I (prefix_.length : Int))) rfl ?_)
    obtain ⟨r_1, hx1, h⟩ := bnd h
    refine un (a1 (v := (S r_1)) (s_slStr rfl rfl rfl hx1) ?_)
    refine un (a1 rfl ?_)
    refine un (a1 rfl ?_)
    refine dnil ?_
    refine Sv.ret ?_
    replace h := Option.some.inj h
    subst h
    exact ⟨_, .refl _, _, rfl, ⟨upd (fun _ => none) 0 (some (.tup [(S r_1), (B true)])), (fun _ => none), 0⟩, (.tup [(S r_1), (B true)]), weak_canon [] rfl List.nodup_nil (Nat.le_refl _) (fun b h => absurd h (Nat.not_lt_zero _)) (.cons rfl (avAs_tup (.cons (avAs_free rfl) (.cons (avAs_free rfl) .nil))) .nil) .nil, rfl, rfl, rfl, rfl⟩
def a43 : AFunc := ⟨2, [(.tmp 4), (.tmp 5)], (.seq (.region [⟨(some 4), (.mov (.const (.c (.str [])))), none⟩, ⟨(some 5), (.mov (.const (.c (.val (.bool false))))), none⟩])
 (.seq (.region [⟨(some 6), (.mov (.tmp 0)), none⟩, ⟨(some 7), (.mov (.tmp 1)), none⟩, ⟨(some 8), (.call 64 [(.tmp 6), (.tmp 7)]), none⟩, ⟨(some 9), (.ext (.tmp 8) 0), none⟩, ⟨(some 10), (.ext (.tmp 8) 1), none⟩, ⟨(some 4), (.mov (.tmp 9)), none⟩, ⟨(some 5), (.mov (.tmp 10)), none⟩])
 .ret))⟩
set_option maxRecDepth 100000 in
theorem c43 : compFunc Tryd.prog 43 = some a43 := by kernel_rfl
def strings_CutPrefix_post (r : ((List UInt8) × Bool)) : AV → Heap → Nat → Prop := fun v h' n' => v = (.tup [(S r.1), (B r.2)]) ∧ (h' = (fun _ => none)) ∧ n' = 0
/-- strings.CutPrefix -/
noncomputable def strings_CutPrefix (s_ : (List UInt8)) (prefix_ : (List UInt8)) : Option ((List UInt8) × Bool) :=
  (internal_stringslite_CutPrefix s_ prefix_).bind fun r_ =>
  some (r_.1, r_.2)
theorem strings_CutPrefix_ok {mL : Int} {s_ : (List UInt8)} {prefix_ : (List UInt8)} {r : ((List UInt8) × Bool)} (h : strings_CutPrefix s_ prefix_ = some r) : CPure Tryd.prog (GG mL) 43 [(S s_), (S prefix_)] (.tup [(S r.1), (B r.2)]) := by
  refine acalls_of_sv hmix c43 (R := strings_CutPrefix_post r) ?_
  unfold strings_CutPrefix at h
  refine Sv.seq ?_
  refine Sv.region ?_
  refine un (a1 rfl ?_)
  refine un (a1 rfl ?_)
  refine dnil ?_
  refine Sv.seq ?_
  refine Sv.region ?_
  refine un (a1 rfl ?_)
  refine un (a1 rfl ?_)
  obtain ⟨r_, hr1, h⟩ := bnd h
  refine un (ac_pure (internal_stringslite_CutPrefix_ok hr1) rfl rfl rfl ?_)
  refine un (a1 (v := (S r_.1)) rfl ?_)
  refine un (a1 (v := (B r_.2)) rfl ?_)
  refine un (a1 rfl ?_)
  refine un (a1 rfl ?_)
  refine dnil ?_
  refine Sv.ret ?_
  replace h := Option.some.inj h
  subst h
  exact ⟨_, .refl _, _, rfl, ⟨upd (fun _ => none) 0 (some (.tup [(S r_.1), (B r_.2)])), (fun _ => none), 0⟩, (.tup [(S r_.1), (B r_.2)]), weak_canon [] rfl List.nodup_nil (Nat.le_refl _) (fun b h => absurd h (Nat.not_lt_zero _)) (.cons rfl (avAs_tup (.cons (avAs_free rfl) (.cons (avAs_free rfl) .nil))) .nil) .nil, rfl, rfl, rfl, rfl⟩
noncomputable abbrev strings_Index (s_ : (List UInt8)) (substr_ : (List UInt8)) : Option Int := index? s_ substr_
/-- strings.Index, by the contract of the shelf -/
theorem strings_Index_ok {mL : Int} {s_ : (List UInt8)} {substr_ : (List UInt8)} {r : Int} (h : strings_Index s_ substr_ = some r) : CPure Tryd.prog (GG mL) 44 [(S s_), (S substr_)] (I r) := index_ok (m := mL) Tryd.lays143 rfl h
/-- (*strings.Builder).String, by my own walk of it -/
theorem strings_Builder_String_ok {mL : Int} {z : Bool} {l : List UInt8} (hz : z = true → l = []) : ACalls Tryd.prog (GG mL) 25 [.c (.ref 0 2 0 0)] (bldH 52 5 z l) 2 (fun v h' n' => v = .c (.str l) ∧ h' = (fun _ => none) ∧ n' = 2) := bString_ok bL bX hz
noncomputable abbrev strings_Builder_WriteByte (l : List UInt8) (x0 : Int) : Option (List UInt8) := bWriteByte? l x0
/-- (*strings.Builder).WriteByte, by my own walk of it -/
theorem strings_Builder_WriteByte_ok {mL : Int} {z : Bool} {l : List UInt8} {x0 : Int} {r : List UInt8} (hz : z = true → l = []) (h : strings_Builder_WriteByte l x0 = some r) : ACalls Tryd.prog (GG mL) 66 [.c (.ref 0 2 0 0), (.c (.val (.int .u8 x0)))] (bldH 52 5 z l) 2 (bPost 52 5 (.c (.val .nilIface)) r) := bWriteByte_ok blays b167 hz h
def a45_c0 : ACode := (.region [⟨(some 10), (.mov (.tmp 4)), none⟩, ⟨(some 11), (.bin .add (.tmp 10) (.const (.c (.val (.int .i64 1))))), none⟩, ⟨(some 4), (.mov (.tmp 11)), none⟩])
def a45_c1 : ACode := (.seq (.seq (.region [⟨(some 6), (.mov (.tmp 4)), none⟩, ⟨(some 7), (.mov (.tmp 0)), none⟩, ⟨(some 8), (.lenS (.tmp 7)), none⟩, ⟨(some 9), (.bin .lss (.tmp 6) (.tmp 8)), none⟩])
 (.cond (.tmp 9) .skip (.exit 0)))
 (.seq (.block 1 (.seq (.region [⟨(some 12), (.mov (.tmp 0)), none⟩, ⟨(some 13), (.mov (.tmp 4)), none⟩, ⟨(some 14), (.idxS (.tmp 12) (.tmp 13)), none⟩, ⟨(some 5), (.mov (.tmp 14)), none⟩])
 (.block 2 (.seq (.region [⟨(some 18), (.mov (.tmp 5)), none⟩, ⟨(some 19), (.mov (.tmp 0)), none⟩, ⟨(some 20), (.idxS (.tmp 19) (.const (.c (.val (.int .i64 0))))), none⟩, ⟨(some 21), (.bin .eql (.tmp 18) (.tmp 20)), none⟩, ⟨(some 17), (.mov (.tmp 21)), none⟩])
 (.cond (.tmp 17) (.seq (.drawn (.fin [(⟨(some 22), (.mov (.tmp 0)), none⟩, (0, 0)), (⟨(some 23), (.mov (.tmp 4)), none⟩, (0, 1)), (⟨(some 24), (.bin .add (.tmp 23) (.const (.c (.val (.int .i64 1))))), none⟩, (0, 2)), (⟨(some 25), (.slStr (.tmp 22) none (some (.tmp 24))), none⟩, (0, 3)), (⟨(some 26), (.call 25 [(.tmp 3)]), none⟩, (2, 4)), (⟨(some 27), (.build [(.val (.int .i64 0)), (.str []), (.str []), (.val (.int .i64 0))] [(0, (1, (.const (.c (.val (.int .i64 5)))))), (1, (1, (.tmp 25))), (2, (1, (.tmp 26)))]), none⟩, (0, 5)), (⟨none, (.store 4 (.tmp 2) (.tmp 27)), none⟩, (2, 6))]))
 .ret) (.seq (.region [⟨(some 29), (.mov (.tmp 5)), none⟩, ⟨(some 30), (.bin .eql (.tmp 29) (.const (.c (.val (.int .u8 10))))), none⟩, ⟨(some 28), (.mov (.tmp 30)), none⟩])
 (.cond (.tmp 28) (.seq (.region [⟨(some 31), (.mov (.tmp 0)), none⟩, ⟨(some 32), (.mov (.tmp 4)), none⟩, ⟨(some 33), (.slStr (.tmp 31) none (some (.tmp 32))), none⟩, ⟨(some 34), (.build [(.val (.int .i64 0)), (.str []), (.str []), (.val (.int .i64 0))] [(0, (1, (.const (.c (.val (.int .i64 6)))))), (1, (1, (.tmp 33)))]), none⟩, ⟨none, (.store 4 (.tmp 2) (.tmp 34)), none⟩])
 .ret) (.seq (.region [⟨(some 36), (.mov (.tmp 5)), none⟩, ⟨(some 37), (.bin .eql (.tmp 36) (.const (.c (.val (.int .u8 92))))), none⟩, ⟨(some 38), (.mov (.tmp 37)), none⟩, ⟨(some 39), (.mov (.tmp 4)), (some (38, true))⟩, ⟨(some 40), (.bin .add (.tmp 39) (.const (.c (.val (.int .i64 1))))), (some (38, true))⟩, ⟨(some 41), (.mov (.tmp 0)), (some (38, true))⟩, ⟨(some 42), (.lenS (.tmp 41)), (some (38, true))⟩, ⟨(some 43), (.bin .lss (.tmp 40) (.tmp 42)), (some (38, true))⟩, ⟨(some 44), (.pick (.tmp 38) (.tmp 43) (.const (.c (.val (.bool false))))), none⟩, ⟨(some 35), (.mov (.tmp 44)), none⟩])
 (.cond (.tmp 35) (.seq (.region [⟨(some 45), (.mov (.tmp 4)), none⟩, ⟨(some 46), (.bin .add (.tmp 45) (.const (.c (.val (.int .i64 1))))), none⟩, ⟨(some 4), (.mov (.tmp 46)), none⟩])
 (.region [⟨(some 47), (.mov (.tmp 0)), none⟩, ⟨(some 48), (.mov (.tmp 4)), none⟩, ⟨(some 49), (.idxS (.tmp 47) (.tmp 48)), none⟩, ⟨(some 50), (.call 66 [(.tmp 3), (.tmp 49)]), none⟩])) (.region [⟨(some 15), (.mov (.tmp 5)), none⟩, ⟨(some 16), (.call 66 [(.tmp 3), (.tmp 15)]), none⟩]))))))))))
 a45_c0))
def a45 : AFunc := ⟨1, [(.cell true 4 2)], (.seq (.region [⟨(some 2), (.box (.const (.agg [(.val (.int .i64 0)), (.str []), (.str []), (.val (.int .i64 0))]))), none⟩])
 (.seq (.region [⟨(some 3), (.boxB 52), none⟩])
 (.seq (.seq (.region [⟨(some 4), (.mov (.const (.c (.val (.int .i64 1))))), none⟩])
 (.block 0 (.loop a45_c1)))
 (.seq (.region [⟨(some 51), (.mov (.tmp 0)), none⟩, ⟨(some 52), (.build [(.val (.int .i64 0)), (.str []), (.str []), (.val (.int .i64 0))] [(0, (1, (.const (.c (.val (.int .i64 6)))))), (1, (1, (.tmp 51)))]), none⟩, ⟨none, (.store 4 (.tmp 2) (.tmp 52)), none⟩])
 .ret))))⟩
set_option maxRecDepth 100000 in
theorem c45 : compFunc Tryd.prog 45 = some a45 := by kernel_rfl
def csstok_text_post (r : TSToken) : AV → Heap → Nat → Prop := fun v h' n' => v = (.agg [cI r.Kind, .str r.Raw, .str r.Value, cI r.Num]) ∧ (h' = (fun _ => none)) ∧ n' = 0
abbrev csstok_text_l0_H (s_ : (List UInt8)) (F_ : (List UInt8) → Int → Option TSToken) (o : TSToken) (R_ : St → Prop) : Prop := ∀ (b_ : (List UInt8)) (i_ : Int) (zb : Bool) (_ : zb = true → b_ = []), F_ b_ i_ = some o → ∀ s, Weak 0 s ⟨(upd (upd (upd (upd (fun _ => none) 0 (some (S s_))) 2 (some (.c (.ref 0 4 0 0)))) 3 (some (.c (.ref 1 2 0 0)))) 4 (some (I i_))), (upd (upd (upd (fun _ => none) 0 (some (.cells 4 [[cI 0, .str [], .str [], cI 0]]))) 1 (some (.bld 52 zb 2 b_.length))) 2 (bufB zb 5 b_)), 3⟩ → R_ s
abbrev csstok_text_l0_E0 (s_ : (List UInt8)) (F_ : Unit → Option TSToken) (o : TSToken) (R_ : St → Prop) : Prop := ∀ (_ : Unit), F_ () = some o → ∀ s, Weak 0 s ⟨(upd (upd (fun _ => none) 0 (some (S s_))) 2 (some (.c (.ref 0 4 0 0)))), (upd (fun _ => none) 0 (some (.cells 4 [[cI 0, .str [], .str [], cI 0]]))), 1⟩ → R_ s
noncomputable def csstok_text_j3 (s_ : (List UInt8)) (self : (List UInt8) → Int → Option TSToken) (K0_ : Unit → Option TSToken) (b_1 : (List UInt8)) (i_1 : Int) : Option TSToken :=
  self b_1 (wi (i_1 + 1))
theorem csstok_text_j3_ok {mL : Int} {Q : AExit → St → Prop} {s_ : (List UInt8)} {self : (List UInt8) → Int → Option TSToken} {K0_ : Unit → Option TSToken} {b_1 : (List UInt8)} {i_1 : Int} {zb_1 : Bool} (hzb_1 : zb_1 = true → b_1 = []) {o : TSToken} (h : csstok_text_j3 s_ self K0_ b_1 i_1 = some o)
    (hself : csstok_text_l0_H s_ self o (Q .normal))
    (hK0 : csstok_text_l0_E0 s_ K0_ o (Q (.exit 0)))
    (hr : ∀ s, Ends a45.results 0 (csstok_text_post o) .ret s → Q .ret s) :
    Sv Tryd.prog (GG mL) 0 a45_c0 Q ⟨(upd (upd (upd (upd (fun _ => none) 0 (some (S s_))) 2 (some (.c (.ref 0 4 0 0)))) 3 (some (.c (.ref 1 2 0 0)))) 4 (some (I i_1))), (upd (upd (upd (fun _ => none) 0 (some (.cells 4 [[cI 0, .str [], .str [], cI 0]]))) 1 (some (.bld 52 zb_1 2 b_1.length))) 2 (bufB zb_1 5 b_1)), 3⟩ := by
  unfold csstok_text_j3 at h
  refine Sv.region ?_
  refine un (a1 rfl ?_)
  refine un (a1 (v := (I (wi (i_1 + 1)))) rfl ?_)
  refine un (a1 rfl ?_)
  refine dnil ?_
  exact hself b_1 (wi (i_1 + 1)) zb_1 hzb_1 h _ (weak_canon [0, 1, 2] rfl (by decide) (by decide) (fun b h => absurd h (Nat.not_lt_zero _)) (.cons rfl (avAs_free rfl) (.cons rfl (.c (.ref rfl (by decide))) (.cons rfl (.c (.ref rfl (by decide))) (.cons rfl (avAs_free rfl) .nil)))) (.buf (by decide) rfl (.box (by decide) rfl (.bld rfl (by decide)) (.box (by decide) rfl (blkAs_cells (.cons (.same rfl) (.cons (.same rfl) (.cons (.same rfl) (.cons (.same rfl) .nil))))) .nil))))
abbrev csstok_text_l0_I (s_ : (List UInt8)) (F_ : Nat → (List UInt8) → Int → Option TSToken) (o : TSToken) : Nat → St → Prop := fun k s => ∃ (b_ : (List UInt8)), ∃ (i_ : Int), ∃ (zb : Bool), (zb = true → b_ = []) ∧ F_ k b_ i_ = some o ∧ s = ⟨(upd (upd (upd (upd (fun _ => none) 0 (some (S s_))) 2 (some (.c (.ref 0 4 0 0)))) 3 (some (.c (.ref 1 2 0 0)))) 4 (some (I i_))), (upd (upd (upd (fun _ => none) 0 (some (.cells 4 [[cI 0, .str [], .str [], cI 0]]))) 1 (some (.bld 52 zb 2 b_.length))) 2 (bufB zb 5 b_)), 3⟩
noncomputable def csstok_text_l0 (s_ : (List UInt8)) (K0_ : Unit → Option TSToken) : Nat → (List UInt8) → Int → Option TSToken
  | 0, _, _ => none
  | k + 1, b_, i_ =>
    if decide (i_ < (s_.length : Int)) then
      (at? s_ i_).bind fun c_ =>
      (at? s_ 0).bind fun c_1 =>
      if decide ((c_.toNat : Int) = (c_1.toNat : Int)) then
        (sub? s_ 0 (wi (i_ + 1))).bind fun r_ =>
        some (⟨5, r_, b_, 0⟩ : TSToken)
      else
        if decide ((c_.toNat : Int) = 10) then
          (sub? s_ 0 i_).bind fun r_1 =>
          some (⟨6, r_1, [], 0⟩ : TSToken)
        else
          if ((decide ((c_.toNat : Int) = 92)) && (decide ((wi (i_ + 1)) < (s_.length : Int)))) then
            (at? s_ (wi (i_ + 1))).bind fun c_2 =>
            (strings_Builder_WriteByte b_ (c_2.toNat : Int)).bind fun r_2 =>
            csstok_text_j3 s_ (csstok_text_l0 s_ K0_ k) K0_ r_2 (wi (i_ + 1))
          else
            (strings_Builder_WriteByte b_ (c_.toNat : Int)).bind fun r_3 =>
            csstok_text_j3 s_ (csstok_text_l0 s_ K0_ k) K0_ r_3 i_
    else
      K0_ ()
theorem csstok_text_l0_ok {mL : Int} {Q : AExit → St → Prop} {s_ : (List UInt8)} {K0_ : Unit → Option TSToken} {k : Nat} {b_ : (List UInt8)} {i_ : Int} {zb : Bool} (hzb : zb = true → b_ = []) {o : TSToken} (h : csstok_text_l0 s_ K0_ k b_ i_ = some o)
    (hK0 : csstok_text_l0_E0 s_ K0_ o (Q (.exit 0)))
    (hr : ∀ s, Ends a45.results 0 (csstok_text_post o) .ret s → Q .ret s) :
    Sv Tryd.prog (GG mL) 0 (.loop a45_c1) Q ⟨(upd (upd (upd (upd (fun _ => none) 0 (some (S s_))) 2 (some (.c (.ref 0 4 0 0)))) 3 (some (.c (.ref 1 2 0 0)))) 4 (some (I i_))), (upd (upd (upd (fun _ => none) 0 (some (.cells 4 [[cI 0, .str [], .str [], cI 0]]))) 1 (some (.bld 52 zb 2 b_.length))) 2 (bufB zb 5 b_)), 3⟩ := by
  refine Sv.loop (I := csstok_text_l0_I s_ (csstok_text_l0 s_ K0_) o) (fun k s hI => ?_) ⟨b_, i_, zb, hzb, h, rfl⟩
  clear h
  clear hzb zb i_ b_
  obtain ⟨b_, i_, zb, hzb, h, rfl⟩ := hI
  cases k with
  | zero => cases h
  | succ k =>
  rw [csstok_text_l0] at h
  have hself : csstok_text_l0_H s_ (csstok_text_l0 s_ K0_ k) o (rnd 0 (csstok_text_l0_I s_ (csstok_text_l0 s_ K0_) o) k Q) := fun b_ i_ zb hzb h s hw => ⟨_, k, hw, Nat.lt_succ_self k, b_, i_, zb, hzb, h, rfl⟩
  refine Sv.seq ?_
  refine Sv.seq ?_
  refine Sv.region ?_
  refine un (a1 rfl ?_)
  refine un (a1 rfl ?_)
  refine un (a1 (v := (I (s_.length : Int))) rfl ?_)
  refine un (a1 (v := (B (decide (i_ < (s_.length : Int))))) rfl ?_)
  refine dnil ?_
  refine Sv.cond (b := decide (i_ < (s_.length : Int))) rfl (fun hc1 => ?_) (fun hc1 => ?_)
  · replace h := ifT hc1 h
    refine Sv.skip ?_
    refine Sv.seq ?_
    refine Sv.block ?_
    refine Sv.seq ?_
    refine Sv.region ?_
    refine un (a1 rfl ?_)
    refine un (a1 rfl ?_)
    obtain ⟨c_, hx1, h⟩ := bnd h
    refine un (a1 (v := (.c (.val (.int .u8 (c_.toNat : Int))))) (s_idxS rfl rfl hx1) ?_)
    refine un (a1 rfl ?_)
    refine dnil ?_
    refine Sv.block ?_
    refine Sv.seq ?_
    refine Sv.region ?_
    refine un (a1 rfl ?_)
    refine un (a1 rfl ?_)
    obtain ⟨c_1, hx2, h⟩ := bnd h
    refine un (a1 (v := (.c (.val (.int .u8 (c_1.toNat : Int))))) (s_idxS rfl rfl hx2) ?_)
    refine un (a1 (v := (B (decide ((c_.toNat : Int) = (c_1.toNat : Int))))) rfl ?_)
    refine un (a1 rfl ?_)
    refine dnil ?_
    refine Sv.cond (b := decide ((c_.toNat : Int) = (c_1.toNat : Int))) rfl (fun hc2 => ?_) (fun hc2 => ?_)
    · replace h := ifT hc2 h
      refine Sv.seq ?_
      refine Sv.drawn ?_
      refine un (a1 rfl ?_)
      refine un (a1 rfl ?_)
      refine un (a1 (v := (I (wi (i_ + 1)))) rfl ?_)
      obtain ⟨r_, hx3, h⟩ := bnd h
      refine un (a1 (v := (S r_)) (s_slStr rfl rfl rfl hx3) ?_)
      refine un (ac_gen (bs := [1, 2]) («as» := [(.c (.ref 1 2 0 0))]) (h2 := _) (h1 := (upd (upd (fun _ => none) 1 (some (.bld 52 zb 2 b_.length))) 2 (bufB zb 5 b_))) (strings_Builder_String_ok (z := zb) (l := b_) hzb) rfl (.cons (.c (.ref rfl (by decide))) .nil) (hsub_refl _) (.cons rfl (.cons rfl (.nil _))) (fun h => by cases h) (by decide) (by decide) (.cons (.c (.ref rfl (by decide))) .nil) (.buf (by decide) rfl (.box (by decide) rfl (.bld rfl (by decide)) .nil)) ?_)
      rintro _ _ _ hn ⟨rfl, rfl, rfl⟩
      refine ⟨.inl rfl, (rem [1, 2] _), fun hbd => (m3_rem (in_cons (by decide) (in_cons (by decide) (in_nil _))) (.nil) hbd), (S b_), 3, rfl, rfl, ?_⟩
      refine un (a1 (v := (.agg [cI 5, .str r_, .str b_, cI 0])) rfl ?_)
      refine un (a2n (h' := upd _ 0 (some (.cells 4 [[cI 5, .str r_, .str b_, cI 0]]))) (n' := 3) rfl rfl (fun h => by cases h) ?_)
      refine dnil ?_
      refine Sv.ret ?_
      replace h := Option.some.inj h
      subst h
      exact hr _ ⟨_, .refl _, _, rfl, ⟨upd (fun _ => none) 0 (some (.agg [cI 5, .str r_, .str b_, cI 0])), (fun _ => none), 0⟩, (.agg [cI 5, .str r_, .str b_, cI 0]), weak_canon [] rfl List.nodup_nil (Nat.le_refl _) (fun b h => absurd h (Nat.not_lt_zero _)) (.cons rfl (avAs_free rfl) .nil) .nil, rfl, rfl, rfl, rfl⟩
    · replace h := ifF hc2 h
      refine Sv.seq ?_
      refine Sv.region ?_
      refine un (a1 rfl ?_)
      refine un (a1 (v := (B (decide ((c_.toNat : Int) = 10)))) rfl ?_)
      refine un (a1 rfl ?_)
      refine dnil ?_
      refine Sv.cond (b := decide ((c_.toNat : Int) = 10)) rfl (fun hc3 => ?_) (fun hc3 => ?_)
      · replace h := ifT hc3 h
        refine Sv.seq ?_
        refine Sv.region ?_
        refine un (a1 rfl ?_)
        refine un (a1 rfl ?_)
        obtain ⟨r_1, hx4, h⟩ := bnd h
        refine un (a1 (v := (S r_1)) (s_slStr rfl rfl rfl hx4) ?_)
        refine un (a1 (v := (.agg [cI 6, .str r_1, .str [], cI 0])) rfl ?_)
        refine un (a2n (h' := upd _ 0 (some (.cells 4 [[cI 6, .str r_1, .str [], cI 0]]))) (n' := 3) rfl rfl (fun h => by cases h) ?_)
        refine dnil ?_
        refine Sv.ret ?_
        replace h := Option.some.inj h
        subst h
        exact hr _ ⟨_, .refl _, _, rfl, ⟨upd (fun _ => none) 0 (some (.agg [cI 6, .str r_1, .str [], cI 0])), (fun _ => none), 0⟩, (.agg [cI 6, .str r_1, .str [], cI 0]), weak_canon [] rfl List.nodup_nil (Nat.le_refl _) (fun b h => absurd h (Nat.not_lt_zero _)) (.cons rfl (avAs_free rfl) .nil) .nil, rfl, rfl, rfl, rfl⟩
      · replace h := ifF hc3 h
        refine Sv.seq ?_
        refine Sv.region ?_
        refine un (a1 rfl ?_)
        refine un (a1 (v := (B (decide ((c_.toNat : Int) = 92)))) rfl ?_)
        refine un (a1 rfl ?_)
        refine gjoin 6 (d := 44) (v := (B ((decide ((c_.toNat : Int) = 92)) && (decide ((wi (i_ + 1)) < (s_.length : Int)))))) (fun X hX => ?_) ?_
        · refine split2 (fun hc4 => ?_) (fun hc4 => ?_)
          · refine gt rfl (a1 rfl ?_)
            refine gt rfl (a1 (v := (I (wi (i_ + 1)))) rfl ?_)
            refine gt rfl (a1 rfl ?_)
            refine gt rfl (a1 (v := (I (s_.length : Int))) rfl ?_)
            refine gt rfl (a1 (v := (B (decide ((wi (i_ + 1)) < (s_.length : Int))))) rfl ?_)
            refine un (a1 (v := (B (decide ((wi (i_ + 1)) < (s_.length : Int))))) rfl ?_)
            refine dnil ?_
            exact hX _ (.putEq (by rw [hc4]; rfl) (.skip _ _ (.skip _ _ (.skip _ _ (.skip _ _ (.skip _ _ (.putEq (by rw [hc4]) (.refl _)) rfl) rfl) rfl) rfl) rfl))
          · refine gs rfl rfl ?_
            refine gs rfl rfl ?_
            refine gs rfl rfl ?_
            refine gs rfl rfl ?_
            refine gs rfl rfl ?_
            refine un (a1 (v := (B false)) rfl ?_)
            refine dnil ?_
            exact hX _ (.putEq (by rw [hc4]; rfl) (.skip _ _ (.skip _ _ (.skip _ _ (.skip _ _ (.skip _ _ (.putEq (by rw [hc4]) (.refl _)) rfl) rfl) rfl) rfl) rfl))
        refine un (a1 rfl ?_)
        refine dnil ?_
        refine Sv.cond (b := ((decide ((c_.toNat : Int) = 92)) && (decide ((wi (i_ + 1)) < (s_.length : Int))))) rfl (fun hc5 => ?_) (fun hc5 => ?_)
        · replace h := ifT hc5 h
          refine Sv.seq ?_
          refine Sv.region ?_
          refine un (a1 rfl ?_)
          refine un (a1 (v := (I (wi (i_ + 1)))) rfl ?_)
          refine un (a1 rfl ?_)
          refine dnil ?_
          refine Sv.region ?_
          refine un (a1 rfl ?_)
          refine un (a1 rfl ?_)
          obtain ⟨c_2, hx5, h⟩ := bnd h
          refine un (a1 (v := (.c (.val (.int .u8 (c_2.toNat : Int))))) (s_idxS rfl rfl hx5) ?_)
          obtain ⟨r_2, hr1, h⟩ := bnd h
          refine un (ac_gen (bs := [1, 2]) («as» := [(.c (.ref 1 2 0 0)), (.c (.val (.int .u8 (c_2.toNat : Int))))]) (h2 := _) (h1 := (upd (upd (fun _ => none) 1 (some (.bld 52 zb 2 b_.length))) 2 (bufB zb 5 b_))) (strings_Builder_WriteByte_ok (z := zb) (l := b_) hzb hr1) rfl (.cons (.c (.ref rfl (by decide))) (.cons (avAs_free rfl) .nil)) (hsub_refl _) (.cons rfl (.cons rfl (.nil _))) (fun h => by cases h) (by decide) (by decide) (.cons (.c (.ref rfl (by decide))) (.cons (avAs_free rfl) .nil)) (.buf (by decide) rfl (.box (by decide) rfl (.bld rfl (by decide)) .nil)) ?_)
          rintro _ _ _ hn ⟨z_, hz_, rfl, rfl, rfl⟩
          refine ⟨.inl rfl, (upd (upd (rem [1, 2] _) 1 (some (.bld 52 z_ 3 r_2.length))) 3 (bufB z_ 5 r_2)), fun hbd => (m3_cons (m3_buf rfl) (m3_cons (m3_box rfl rfl) (m3_rem (in_cons (by decide) (in_cons (by decide) (in_nil _))) (.cons (by decide) (.cons (by decide) .nil)) hbd))), (.c (.val .nilIface)), 4, (by cases z_ <;> rfl), rfl, ?_⟩
          refine dnil ?_
          exact Sv.weak (weak_canon [0, 1, 3] rfl (by decide) (by decide) (fun b h => absurd h (Nat.not_lt_zero _)) (.cons rfl (avAs_free rfl) (.cons rfl (.c (.ref rfl (by decide))) (.cons rfl (.c (.ref rfl (by decide))) (.cons rfl (avAs_free rfl) .nil)))) (.buf (by decide) rfl (.box (by decide) rfl (.bld rfl (by decide)) (.box (by decide) rfl (blkAs_cells (.cons (.same rfl) (.cons (.same rfl) (.cons (.same rfl) (.cons (.same rfl) .nil))))) .nil)))) (csstok_text_j3_ok hz_ h hself hK0 hr)
        · replace h := ifF hc5 h
          refine Sv.region ?_
          refine un (a1 rfl ?_)
          obtain ⟨r_3, hr2, h⟩ := bnd h
          refine un (ac_gen (bs := [1, 2]) («as» := [(.c (.ref 1 2 0 0)), (.c (.val (.int .u8 (c_.toNat : Int))))]) (h2 := _) (h1 := (upd (upd (fun _ => none) 1 (some (.bld 52 zb 2 b_.length))) 2 (bufB zb 5 b_))) (strings_Builder_WriteByte_ok (z := zb) (l := b_) hzb hr2) rfl (.cons (.c (.ref rfl (by decide))) (.cons (avAs_free rfl) .nil)) (hsub_refl _) (.cons rfl (.cons rfl (.nil _))) (fun h => by cases h) (by decide) (by decide) (.cons (.c (.ref rfl (by decide))) (.cons (avAs_free rfl) .nil)) (.buf (by decide) rfl (.box (by decide) rfl (.bld rfl (by decide)) .nil)) ?_)
          rintro _ _ _ hn ⟨z_1, hz_1, rfl, rfl, rfl⟩
          refine ⟨.inl rfl, (upd (upd (rem [1, 2] _) 1 (some (.bld 52 z_1 3 r_3.length))) 3 (bufB z_1 5 r_3)), fun hbd => (m3_cons (m3_buf rfl) (m3_cons (m3_box rfl rfl) (m3_rem (in_cons (by decide) (in_cons (by decide) (in_nil _))) (.cons (by decide) (.cons (by decide) .nil)) hbd))), (.c (.val .nilIface)), 4, (by cases z_1 <;> rfl), rfl, ?_⟩
          refine dnil ?_
          exact Sv.weak (weak_canon [0, 1, 3] rfl (by decide) (by decide) (fun b h => absurd h (Nat.not_lt_zero _)) (.cons rfl (avAs_free rfl) (.cons rfl (.c (.ref rfl (by decide))) (.cons rfl (.c (.ref rfl (by decide))) (.cons rfl (avAs_free rfl) .nil)))) (.buf (by decide) rfl (.box (by decide) rfl (.bld rfl (by decide)) (.box (by decide) rfl (blkAs_cells (.cons (.same rfl) (.cons (.same rfl) (.cons (.same rfl) (.cons (.same rfl) .nil))))) .nil)))) (csstok_text_j3_ok hz_1 h hself hK0 hr)
  · replace h := ifF hc1 h
    refine Sv.exit ?_
    exact hK0 () h _ (weak_canon [0] rfl (by decide) (by decide) (fun b h => absurd h (Nat.not_lt_zero _)) (.cons rfl (.c (.ref rfl (by decide))) (.cons rfl (avAs_free rfl) .nil)) (.box (by decide) rfl (blkAs_cells (.cons (.same rfl) (.cons (.same rfl) (.cons (.same rfl) (.cons (.same rfl) .nil))))) .nil))
/-- clerestory/csstok.text -/
noncomputable def csstok_text (s_ : (List UInt8)) : Option TSToken :=
  limF fun kk => csstok_text_l0 s_ (fun (_ : Unit) => 
      some (⟨6, s_, [], 0⟩ : TSToken)) kk ([] : List UInt8) 1
theorem csstok_text_ok {mL : Int} {s_ : (List UInt8)} {r : TSToken} (h : csstok_text s_ = some r) : CPure Tryd.prog (GG mL) 45 [(S s_)] (.agg [cI r.Kind, .str r.Raw, .str r.Value, cI r.Num]) := by
  refine acalls_of_sv hmix c45 (R := csstok_text_post r) ?_
  unfold csstok_text at h
  refine Sv.seq ?_
  refine Sv.region ?_
  refine un (a2v (v := (.c (.ref 0 4 0 0))) (h' := upd _ 0 (some (.cells 4 [[cI 0, .str [], .str [], cI 0]]))) (n' := 1) rfl rfl (fun h => by cases h) ?_)
  refine dnil ?_
  refine Sv.seq ?_
  refine Sv.region ?_
  refine un (a2v (v := (.c (.ref 2 2 0 0))) (h' := upd _ 2 (some (.bld 52 true 1 ([] : List UInt8).length))) (n' := 3) rfl rfl (fun h => by cases h) ?_)
  refine dnil ?_
  refine Sv.seq ?_
  refine Sv.seq ?_
  refine Sv.region ?_
  refine un (a1 rfl ?_)
  refine dnil ?_
  refine Sv.block ?_
  obtain ⟨kk, h⟩ := limF_some h
  refine Sv.weak (weak_canon [0, 2, 1000] rfl (by decide) (by decide) (fun b h => absurd h (Nat.not_lt_zero _)) (.cons rfl (avAs_free rfl) (.cons rfl (.c (.ref rfl (by decide))) (.cons rfl (.c (.ref rfl (by decide))) (.cons rfl (avAs_free rfl) .nil)))) (.nonB (by decide) (.box (by decide) rfl (.bldN (by decide)) (.box (by decide) rfl (blkAs_cells (.cons (.same rfl) (.cons (.same rfl) (.cons (.same rfl) (.cons (.same rfl) .nil))))) .nil)))) (csstok_text_l0_ok (fun _ => rfl) h ?_ (fun s hs => hs))
  · intro _ h _ hw1
    refine Sv.weak hw1 ?_
    refine Sv.seq ?_
    refine Sv.region ?_
    refine un (a1 rfl ?_)
    refine un (a1 (v := (.agg [cI 6, .str s_, .str [], cI 0])) rfl ?_)
    refine un (a2n (h' := upd _ 0 (some (.cells 4 [[cI 6, .str s_, .str [], cI 0]]))) (n' := 1) rfl rfl (fun h => by cases h) ?_)
    refine dnil ?_
    refine Sv.ret ?_
    replace h := Option.some.inj h
    subst h
    exact ⟨_, .refl _, _, rfl, ⟨upd (fun _ => none) 0 (some (.agg [cI 6, .str s_, .str [], cI 0])), (fun _ => none), 0⟩, (.agg [cI 6, .str s_, .str [], cI 0]), weak_canon [] rfl List.nodup_nil (Nat.le_refl _) (fun b h => absurd h (Nat.not_lt_zero _)) (.cons rfl (avAs_free rfl) .nil) .nil, rfl, rfl, rfl, rfl⟩
def a67 : AFunc := ⟨1, [(.tmp 2)], (.seq (.region [⟨(some 2), (.mov (.const (.c (.val (.bool false))))), none⟩])
 (.seq (.region [⟨(some 3), (.mov (.tmp 0)), none⟩, ⟨(some 4), (.bin .geq (.tmp 3) (.const (.c (.val (.int .u8 128))))), none⟩, ⟨(some 5), (.mov (.tmp 4)), none⟩, ⟨(some 6), (.mov (.tmp 0)), (some (5, false))⟩, ⟨(some 7), (.bin .eql (.tmp 6) (.const (.c (.val (.int .u8 95))))), (some (5, false))⟩, ⟨(some 8), (.pick (.tmp 5) (.const (.c (.val (.bool true)))) (.tmp 7)), none⟩, ⟨(some 9), (.mov (.tmp 8)), none⟩, ⟨(some 10), (.mov (.tmp 0)), (some (9, false))⟩, ⟨(some 11), (.bin .or (.tmp 10) (.const (.c (.val (.int .u8 32))))), (some (9, false))⟩, ⟨(some 12), (.bin .geq (.tmp 11) (.const (.c (.val (.int .u8 97))))), (some (9, false))⟩, ⟨(some 13), (.mov (.tmp 12)), (some (9, false))⟩, ⟨(some 14), (.mov (.tmp 0)), (some (13, true))⟩, ⟨(some 15), (.bin .or (.tmp 14) (.const (.c (.val (.int .u8 32))))), (some (13, true))⟩, ⟨(some 16), (.bin .leq (.tmp 15) (.const (.c (.val (.int .u8 122))))), (some (13, true))⟩, ⟨(some 17), (.pick (.tmp 13) (.tmp 16) (.const (.c (.val (.bool false))))), (some (9, false))⟩, ⟨(some 18), (.pick (.tmp 9) (.const (.c (.val (.bool true)))) (.tmp 17)), none⟩, ⟨(some 2), (.mov (.tmp 18)), none⟩])
 .ret))⟩
set_option maxRecDepth 100000 in
theorem c67 : compFunc Tryd.prog 67 = some a67 := by kernel_rfl
def csstok_starts_post (r : Bool) : AV → Heap → Nat → Prop := fun v h' n' => v = (B r) ∧ (h' = (fun _ => none)) ∧ n' = 0
/-- clerestory/csstok.starts -/
def csstok_starts (c_ : Int) : Bool :=
  (((decide (128 ≤ c_)) || (decide (c_ = 95))) || ((decide (97 ≤ (bitsV .or .u8 c_ 32))) && (decide ((bitsV .or .u8 c_ 32) ≤ 122))))
theorem csstok_starts_ok {mL : Int} (c_ : Int) : CPure Tryd.prog (GG mL) 67 [(.c (.val (.int .u8 c_)))] (B (csstok_starts c_)) := by
  generalize h : csstok_starts c_ = o
  refine acalls_of_sv hmix c67 (R := csstok_starts_post o) ?_
  unfold csstok_starts at h
  refine Sv.seq ?_
  refine Sv.region ?_
  refine un (a1 rfl ?_)
  refine dnil ?_
  refine Sv.seq ?_
  refine Sv.region ?_
  refine un (a1 rfl ?_)
  refine un (a1 (v := (B (decide (128 ≤ c_)))) rfl ?_)
  refine un (a1 rfl ?_)
  refine gjoin 3 (d := 8) (v := (B ((decide (128 ≤ c_)) || (decide (c_ = 95))))) (fun X hX => ?_) ?_
  · refine split2 (fun hc1 => ?_) (fun hc1 => ?_)
    · refine gs rfl rfl ?_
      refine gs rfl rfl ?_
      refine un (a1 (v := (B true)) rfl ?_)
      refine dnil ?_
      exact hX _ (.putEq (by rw [hc1]; rfl) (.skip _ _ (.skip _ _ (.putEq (by rw [hc1]) (.refl _)) rfl) rfl))
    · refine gt rfl (a1 rfl ?_)
      refine gt rfl (a1 (v := (B (decide (c_ = 95)))) rfl ?_)
      refine un (a1 (v := (B (decide (c_ = 95)))) rfl ?_)
      refine dnil ?_
      exact hX _ (.putEq (by rw [hc1]; rfl) (.skip _ _ (.skip _ _ (.putEq (by rw [hc1]) (.refl _)) rfl) rfl))
  refine un (a1 rfl ?_)
  refine gjoin 9 (d := 18) (v := (B (((decide (128 ≤ c_)) || (decide (c_ = 95))) || ((decide (97 ≤ (bitsV .or .u8 c_ 32))) && (decide ((bitsV .or .u8 c_ 32) ≤ 122)))))) (fun X hX => ?_) ?_
  · refine split2 (fun hc3 => ?_) (fun hc3 => ?_)
    · refine gs rfl rfl ?_
      refine gs rfl rfl ?_
      refine gs rfl rfl ?_
      refine gs rfl rfl ?_
      refine gu rfl ?_
      refine gu rfl ?_
      refine gu rfl ?_
      refine gs rfl rfl ?_
      refine un (a1 (v := (B true)) rfl ?_)
      refine dnil ?_
      exact hX _ (.putEq (by rw [hc3]; rfl) (.skip _ _ (.skip _ _ (.skip _ _ (.skip _ _ (.skip _ _ (.skip _ _ (.skip _ _ (.skip _ _ (.putEq (by rw [hc3]) (.refl _)) rfl) rfl) rfl) rfl) rfl) rfl) rfl) rfl))
    · refine gt rfl (a1 rfl ?_)
      refine gt rfl (a1 (v := (.c (.val (.int .u8 (bitsV .or .u8 c_ 32))))) rfl ?_)
      refine gt rfl (a1 (v := (B (decide (97 ≤ (bitsV .or .u8 c_ 32))))) rfl ?_)
      refine gt rfl (a1 rfl ?_)
      refine gjoin 4 (d := 17) (v := (B ((decide (97 ≤ (bitsV .or .u8 c_ 32))) && (decide ((bitsV .or .u8 c_ 32) ≤ 122))))) (fun X hX => ?_) ?_
      · refine split2 (fun hc2 => ?_) (fun hc2 => ?_)
        · refine gt rfl (a1 rfl ?_)
          refine gt rfl (a1 (v := (.c (.val (.int .u8 (bitsV .or .u8 c_ 32))))) rfl ?_)
          refine gt rfl (a1 (v := (B (decide ((bitsV .or .u8 c_ 32) ≤ 122)))) rfl ?_)
          refine gt rfl (a1 (v := (B (decide ((bitsV .or .u8 c_ 32) ≤ 122)))) rfl ?_)
          refine dnil ?_
          exact hX _ (.putEq (by rw [hc2]; rfl) (.skip _ _ (.skip _ _ (.skip _ _ (.putEq (by rw [hc2]) (.refl _)) rfl) rfl) rfl))
        · refine gs rfl rfl ?_
          refine gs rfl rfl ?_
          refine gs rfl rfl ?_
          refine gt rfl (a1 (v := (B false)) rfl ?_)
          refine dnil ?_
          exact hX _ (.putEq (by rw [hc2]; rfl) (.skip _ _ (.skip _ _ (.skip _ _ (.putEq (by rw [hc2]) (.refl _)) rfl) rfl) rfl))
      refine un (a1 (v := (B ((decide (97 ≤ (bitsV .or .u8 c_ 32))) && (decide ((bitsV .or .u8 c_ 32) ≤ 122))))) rfl ?_)
      refine dnil ?_
      exact hX _ (.putEq (by rw [hc3]; rfl) (.skip _ _ (.skip _ _ (.skip _ _ (.skip _ _ (.skip _ _ (.putEq (by rw [hc3]) (.refl _)) rfl) rfl) rfl) rfl) rfl))
  refine un (a1 rfl ?_)
  refine dnil ?_
  refine Sv.ret ?_
  subst h
  exact ⟨_, .refl _, _, rfl, ⟨upd (fun _ => none) 0 (some (B (((decide (128 ≤ c_)) || (decide (c_ = 95))) || ((decide (97 ≤ (bitsV .or .u8 c_ 32))) && (decide ((bitsV .or .u8 c_ 32) ≤ 122)))))), (fun _ => none), 0⟩, (B (((decide (128 ≤ c_)) || (decide (c_ = 95))) || ((decide (97 ≤ (bitsV .or .u8 c_ 32))) && (decide ((bitsV .or .u8 c_ 32) ≤ 122))))), weak_canon [] rfl List.nodup_nil (Nat.le_refl _) (fun b h => absurd h (Nat.not_lt_zero _)) (.cons rfl (avAs_free rfl) .nil) .nil, rfl, rfl, rfl, rfl⟩
def a68 : AFunc := ⟨1, [(.tmp 2)], (.seq (.region [⟨(some 2), (.mov (.const (.c (.val (.bool false))))), none⟩])
 (.seq (.region [⟨(some 3), (.mov (.tmp 0)), none⟩, ⟨(some 4), (.bin .geq (.tmp 3) (.const (.c (.val (.int .u8 48))))), none⟩, ⟨(some 5), (.mov (.tmp 4)), none⟩, ⟨(some 6), (.mov (.tmp 0)), (some (5, true))⟩, ⟨(some 7), (.bin .leq (.tmp 6) (.const (.c (.val (.int .u8 57))))), (some (5, true))⟩, ⟨(some 8), (.pick (.tmp 5) (.tmp 7) (.const (.c (.val (.bool false))))), none⟩, ⟨(some 2), (.mov (.tmp 8)), none⟩])
 .ret))⟩
set_option maxRecDepth 100000 in
theorem c68 : compFunc Tryd.prog 68 = some a68 := by kernel_rfl
def csstok_digit_post (r : Bool) : AV → Heap → Nat → Prop := fun v h' n' => v = (B r) ∧ (h' = (fun _ => none)) ∧ n' = 0
/-- clerestory/csstok.digit -/
def csstok_digit (c_ : Int) : Bool :=
  ((decide (48 ≤ c_)) && (decide (c_ ≤ 57)))
theorem csstok_digit_ok {mL : Int} (c_ : Int) : CPure Tryd.prog (GG mL) 68 [(.c (.val (.int .u8 c_)))] (B (csstok_digit c_)) := by
  generalize h : csstok_digit c_ = o
  refine acalls_of_sv hmix c68 (R := csstok_digit_post o) ?_
  unfold csstok_digit at h
  refine Sv.seq ?_
  refine Sv.region ?_
  refine un (a1 rfl ?_)
  refine dnil ?_
  refine Sv.seq ?_
  refine Sv.region ?_
  refine un (a1 rfl ?_)
  refine un (a1 (v := (B (decide (48 ≤ c_)))) rfl ?_)
  refine un (a1 rfl ?_)
  refine gjoin 3 (d := 8) (v := (B ((decide (48 ≤ c_)) && (decide (c_ ≤ 57))))) (fun X hX => ?_) ?_
  · refine split2 (fun hc1 => ?_) (fun hc1 => ?_)
    · refine gt rfl (a1 rfl ?_)
      refine gt rfl (a1 (v := (B (decide (c_ ≤ 57)))) rfl ?_)
      refine un (a1 (v := (B (decide (c_ ≤ 57)))) rfl ?_)
      refine dnil ?_
      exact hX _ (.putEq (by rw [hc1]; rfl) (.skip _ _ (.skip _ _ (.putEq (by rw [hc1]) (.refl _)) rfl) rfl))
    · refine gs rfl rfl ?_
      refine gs rfl rfl ?_
      refine un (a1 (v := (B false)) rfl ?_)
      refine dnil ?_
      exact hX _ (.putEq (by rw [hc1]; rfl) (.skip _ _ (.skip _ _ (.putEq (by rw [hc1]) (.refl _)) rfl) rfl))
  refine un (a1 rfl ?_)
  refine dnil ?_
  refine Sv.ret ?_
  subst h
  exact ⟨_, .refl _, _, rfl, ⟨upd (fun _ => none) 0 (some (B ((decide (48 ≤ c_)) && (decide (c_ ≤ 57))))), (fun _ => none), 0⟩, (B ((decide (48 ≤ c_)) && (decide (c_ ≤ 57)))), weak_canon [] rfl List.nodup_nil (Nat.le_refl _) (fun b h => absurd h (Nat.not_lt_zero _)) (.cons rfl (avAs_free rfl) .nil) .nil, rfl, rfl, rfl, rfl⟩
def a46 : AFunc := ⟨1, [(.tmp 2)], (.seq (.region [⟨(some 2), (.mov (.const (.c (.val (.bool false))))), none⟩])
 (.seq (.region [⟨(some 3), (.mov (.tmp 0)), none⟩, ⟨(some 4), (.call 67 [(.tmp 3)]), none⟩, ⟨(some 5), (.mov (.tmp 4)), none⟩, ⟨(some 6), (.mov (.tmp 0)), (some (5, false))⟩, ⟨(some 7), (.call 68 [(.tmp 6)]), (some (5, false))⟩, ⟨(some 8), (.pick (.tmp 5) (.const (.c (.val (.bool true)))) (.tmp 7)), none⟩, ⟨(some 9), (.mov (.tmp 8)), none⟩, ⟨(some 10), (.mov (.tmp 0)), (some (9, false))⟩, ⟨(some 11), (.bin .eql (.tmp 10) (.const (.c (.val (.int .u8 45))))), (some (9, false))⟩, ⟨(some 12), (.pick (.tmp 9) (.const (.c (.val (.bool true)))) (.tmp 11)), none⟩, ⟨(some 2), (.mov (.tmp 12)), none⟩])
 .ret))⟩
set_option maxRecDepth 100000 in
theorem c46 : compFunc Tryd.prog 46 = some a46 := by kernel_rfl
def csstok_sign_post (r : Bool) : AV → Heap → Nat → Prop := fun v h' n' => v = (B r) ∧ (h' = (fun _ => none)) ∧ n' = 0
/-- clerestory/csstok.sign -/
def csstok_sign (c_ : Int) : Bool :=
  (((csstok_starts c_) || (csstok_digit c_)) || (decide (c_ = 45)))
theorem csstok_sign_ok {mL : Int} (c_ : Int) : CPure Tryd.prog (GG mL) 46 [(.c (.val (.int .u8 c_)))] (B (csstok_sign c_)) := by
  generalize h : csstok_sign c_ = o
  refine acalls_of_sv hmix c46 (R := csstok_sign_post o) ?_
  unfold csstok_sign at h
  refine Sv.seq ?_
  refine Sv.region ?_
  refine un (a1 rfl ?_)
  refine dnil ?_
  refine Sv.seq ?_
  refine Sv.region ?_
  refine un (a1 rfl ?_)
  refine un (ac_pure (csstok_starts_ok (mL := mL) c_) rfl rfl rfl ?_)
  refine un (a1 rfl ?_)
  refine gjoin 3 (d := 8) (v := (B ((csstok_starts c_) || (csstok_digit c_)))) (fun X hX => ?_) ?_
  · refine split2 (fun hc1 => ?_) (fun hc1 => ?_)
    · refine gs rfl rfl ?_
      refine gs rfl rfl ?_
      refine un (a1 (v := (B true)) rfl ?_)
      refine dnil ?_
      exact hX _ (.putEq (by rw [hc1]; rfl) (.skip _ _ (.skip _ _ (.putEq (by rw [hc1]) (.refl _)) rfl) rfl))
    · refine gt rfl (a1 rfl ?_)
      refine gt rfl (ac_pure (csstok_digit_ok (mL := mL) c_) rfl rfl rfl ?_)
      refine un (a1 (v := (B (csstok_digit c_))) rfl ?_)
      refine dnil ?_
      exact hX _ (.putEq (by rw [hc1]; rfl) (.skip _ _ (.skip _ _ (.putEq (by rw [hc1]) (.refl _)) rfl) rfl))
  refine un (a1 rfl ?_)
  refine gjoin 3 (d := 12) (v := (B (((csstok_starts c_) || (csstok_digit c_)) || (decide (c_ = 45))))) (fun X hX => ?_) ?_
  · refine split2 (fun hc2 => ?_) (fun hc2 => ?_)
    · refine gs rfl rfl ?_
      refine gs rfl rfl ?_
      refine un (a1 (v := (B true)) rfl ?_)
      refine dnil ?_
      exact hX _ (.putEq (by rw [hc2]; rfl) (.skip _ _ (.skip _ _ (.putEq (by rw [hc2]) (.refl _)) rfl) rfl))
    · refine gt rfl (a1 rfl ?_)
      refine gt rfl (a1 (v := (B (decide (c_ = 45)))) rfl ?_)
      refine un (a1 (v := (B (decide (c_ = 45)))) rfl ?_)
      refine dnil ?_
      exact hX _ (.putEq (by rw [hc2]; rfl) (.skip _ _ (.skip _ _ (.putEq (by rw [hc2]) (.refl _)) rfl) rfl))
  refine un (a1 rfl ?_)
  refine dnil ?_
  refine Sv.ret ?_
  subst h
  exact ⟨_, .refl _, _, rfl, ⟨upd (fun _ => none) 0 (some (B (((csstok_starts c_) || (csstok_digit c_)) || (decide (c_ = 45))))), (fun _ => none), 0⟩, (B (((csstok_starts c_) || (csstok_digit c_)) || (decide (c_ = 45)))), weak_canon [] rfl List.nodup_nil (Nat.le_refl _) (fun b h => absurd h (Nat.not_lt_zero _)) (.cons rfl (avAs_free rfl) .nil) .nil, rfl, rfl, rfl, rfl⟩
def a47_c0 : ACode := .ret
def a47 : AFunc := ⟨1, [(.tmp 2)], (.seq (.region [⟨(some 2), (.mov (.const (.c (.val (.bool false))))), none⟩])
 (.seq (.region [⟨(some 3), (.mov (.tmp 0)), none⟩, ⟨(some 4), (.lenS (.tmp 3)), none⟩, ⟨(some 5), (.bin .gtr (.tmp 4) (.const (.c (.val (.int .i64 1))))), none⟩, ⟨(some 6), (.mov (.tmp 5)), none⟩, ⟨(some 7), (.mov (.tmp 0)), (some (6, true))⟩, ⟨(some 8), (.idxS (.tmp 7) (.const (.c (.val (.int .i64 0))))), (some (6, true))⟩, ⟨(some 9), (.bin .eql (.tmp 8) (.const (.c (.val (.int .u8 92))))), (some (6, true))⟩, ⟨(some 10), (.pick (.tmp 6) (.tmp 9) (.const (.c (.val (.bool false))))), none⟩, ⟨(some 11), (.mov (.tmp 10)), none⟩, ⟨(some 12), (.mov (.tmp 0)), (some (11, true))⟩, ⟨(some 13), (.idxS (.tmp 12) (.const (.c (.val (.int .i64 1))))), (some (11, true))⟩, ⟨(some 14), (.bin .neq (.tmp 13) (.const (.c (.val (.int .u8 10))))), (some (11, true))⟩, ⟨(some 15), (.pick (.tmp 11) (.tmp 14) (.const (.c (.val (.bool false))))), none⟩, ⟨(some 2), (.mov (.tmp 15)), none⟩])
 a47_c0))⟩
set_option maxRecDepth 100000 in
theorem c47 : compFunc Tryd.prog 47 = some a47 := by kernel_rfl
def csstok_escape_post (r : Bool) : AV → Heap → Nat → Prop := fun v h' n' => v = (B r) ∧ (h' = (fun _ => none)) ∧ n' = 0
noncomputable def csstok_escape_j1 (v2 : Bool) : Option Bool :=
  some v2
theorem csstok_escape_j1_ok {mL : Int} {v2 : Bool} {o : Bool} (h : csstok_escape_j1 v2 = some o) :
    Sv Tryd.prog (GG mL) 0 a47_c0 (Ends a47.results 0 (csstok_escape_post o)) ⟨(upd (fun _ => none) 2 (some (B v2))), (fun _ => none), 0⟩ := by
  unfold csstok_escape_j1 at h
  refine Sv.ret ?_
  replace h := Option.some.inj h
  subst h
  exact ⟨_, .refl _, _, rfl, ⟨upd (fun _ => none) 0 (some (B v2)), (fun _ => none), 0⟩, (B v2), weak_canon [] rfl List.nodup_nil (Nat.le_refl _) (fun b h => absurd h (Nat.not_lt_zero _)) (.cons rfl (avAs_free rfl) .nil) .nil, rfl, rfl, rfl, rfl⟩
/-- clerestory/csstok.escape -/
noncomputable def csstok_escape (s_ : (List UInt8)) : Option Bool :=
  if decide (1 < (s_.length : Int)) then
    (at? s_ 0).bind fun c_ =>
    if decide ((c_.toNat : Int) = 92) then
      (at? s_ 1).bind fun c_1 =>
      csstok_escape_j1 (!decide ((c_1.toNat : Int) = 10))
    else
      csstok_escape_j1 false
  else
    csstok_escape_j1 false
theorem csstok_escape_ok {mL : Int} {s_ : (List UInt8)} {r : Bool} (h : csstok_escape s_ = some r) : CPure Tryd.prog (GG mL) 47 [(S s_)] (B r) := by
  refine acalls_of_sv hmix c47 (R := csstok_escape_post r) ?_
  unfold csstok_escape at h
  refine Sv.seq ?_
  refine Sv.region ?_
  refine un (a1 rfl ?_)
  refine dnil ?_
  refine Sv.seq ?_
  refine Sv.region ?_
  refine un (a1 rfl ?_)
  refine un (a1 (v := (I (s_.length : Int))) rfl ?_)
  refine un (a1 (v := (B (decide (1 < (s_.length : Int))))) rfl ?_)
  refine un (a1 rfl ?_)
  refine split2 (fun hc1 => ?_) (fun hc1 => ?_)
  · replace h := ifT hc1 h
    refine gt rfl (a1 rfl ?_)
    obtain ⟨c_, hx1, h⟩ := bnd h
    refine gt rfl (a1 (v := (.c (.val (.int .u8 (c_.toNat : Int))))) (s_idxS rfl rfl hx1) ?_)
    refine gt rfl (a1 (v := (B (decide ((c_.toNat : Int) = 92)))) rfl ?_)
    refine un (a1 (v := (B (decide ((c_.toNat : Int) = 92)))) rfl ?_)
    refine un (a1 rfl ?_)
    refine split2 (fun hc2 => ?_) (fun hc2 => ?_)
    · replace h := ifT hc2 h
      refine gt rfl (a1 rfl ?_)
      obtain ⟨c_1, hx2, h⟩ := bnd h
      refine gt rfl (a1 (v := (.c (.val (.int .u8 (c_1.toNat : Int))))) (s_idxS rfl rfl hx2) ?_)
      refine gt rfl (a1 (v := (B (!decide ((c_1.toNat : Int) = 10)))) rfl ?_)
      refine un (a1 (v := (B (!decide ((c_1.toNat : Int) = 10)))) rfl ?_)
      refine un (a1 rfl ?_)
      refine dnil ?_
      exact Sv.weak (weak_canon [] rfl (by decide) (by decide) (fun b h => absurd h (Nat.not_lt_zero _)) (.cons rfl (avAs_free rfl) .nil) .nil) (csstok_escape_j1_ok h)
    · replace h := ifF hc2 h
      refine gs rfl rfl ?_
      refine gs rfl rfl ?_
      refine gs rfl rfl ?_
      refine un (a1 (v := (B false)) rfl ?_)
      refine un (a1 rfl ?_)
      refine dnil ?_
      exact Sv.weak (weak_canon [] rfl (by decide) (by decide) (fun b h => absurd h (Nat.not_lt_zero _)) (.cons rfl (avAs_free rfl) .nil) .nil) (csstok_escape_j1_ok h)
  · replace h := ifF hc1 h
    refine gs rfl rfl ?_
    refine gs rfl rfl ?_
    refine gs rfl rfl ?_
    refine un (a1 (v := (B false)) rfl ?_)
    refine un (a1 rfl ?_)
    refine gs rfl rfl ?_
    refine gs rfl rfl ?_
    refine gs rfl rfl ?_
    refine un (a1 (v := (B false)) rfl ?_)
    refine un (a1 rfl ?_)
    refine dnil ?_
    exact Sv.weak (weak_canon [] rfl (by decide) (by decide) (fun b h => absurd h (Nat.not_lt_zero _)) (.cons rfl (avAs_free rfl) .nil) .nil) (csstok_escape_j1_ok h)
def a69_c0 : ACode := (.seq (.seq (.region [⟨(some 6), (.mov (.tmp 5)), none⟩, ⟨(some 7), (.mov (.tmp 0)), none⟩, ⟨(some 8), (.lenS (.tmp 7)), none⟩, ⟨(some 9), (.bin .lss (.tmp 6) (.tmp 8)), none⟩])
 (.cond (.tmp 9) .skip (.exit 0)))
 (.block 1 (.block 2 (.seq (.region [⟨(some 13), (.mov (.tmp 0)), none⟩, ⟨(some 14), (.mov (.tmp 5)), none⟩, ⟨(some 15), (.slStr (.tmp 13) (some (.tmp 14)) none), none⟩, ⟨(some 16), (.call 47 [(.tmp 15)]), none⟩, ⟨(some 12), (.mov (.tmp 16)), none⟩])
 (.cond (.tmp 12) (.seq (.region [⟨(some 17), (.mov (.tmp 0)), none⟩, ⟨(some 18), (.mov (.tmp 5)), none⟩, ⟨(some 19), (.bin .add (.tmp 18) (.const (.c (.val (.int .i64 1))))), none⟩, ⟨(some 20), (.idxS (.tmp 17) (.tmp 19)), none⟩, ⟨(some 21), (.call 66 [(.tmp 4), (.tmp 20)]), none⟩])
 (.region [⟨(some 22), (.mov (.tmp 5)), none⟩, ⟨(some 23), (.bin .add (.tmp 22) (.const (.c (.val (.int .i64 2))))), none⟩, ⟨(some 5), (.mov (.tmp 23)), none⟩])) (.seq (.region [⟨(some 25), (.mov (.tmp 0)), none⟩, ⟨(some 26), (.mov (.tmp 5)), none⟩, ⟨(some 27), (.idxS (.tmp 25) (.tmp 26)), none⟩, ⟨(some 28), (.call 46 [(.tmp 27)]), none⟩, ⟨(some 24), (.mov (.tmp 28)), none⟩])
 (.cond (.tmp 24) (.seq (.region [⟨(some 29), (.mov (.tmp 0)), none⟩, ⟨(some 30), (.mov (.tmp 5)), none⟩, ⟨(some 31), (.idxS (.tmp 29) (.tmp 30)), none⟩, ⟨(some 32), (.call 66 [(.tmp 4), (.tmp 31)]), none⟩])
 (.region [⟨(some 33), (.mov (.tmp 5)), none⟩, ⟨(some 34), (.bin .add (.tmp 33) (.const (.c (.val (.int .i64 1))))), none⟩, ⟨(some 5), (.mov (.tmp 34)), none⟩])) (.seq (.region [⟨(some 10), (.call 25 [(.tmp 4)]), none⟩, ⟨(some 11), (.mov (.tmp 5)), none⟩, ⟨(some 2), (.mov (.tmp 10)), none⟩, ⟨(some 3), (.mov (.tmp 11)), none⟩])
 .ret))))))))
def a69 : AFunc := ⟨1, [(.tmp 2), (.tmp 3)], (.seq (.region [⟨(some 2), (.mov (.const (.c (.str [])))), none⟩, ⟨(some 3), (.mov (.const (.c (.val (.int .i64 0))))), none⟩])
 (.seq (.region [⟨(some 4), (.boxB 52), none⟩])
 (.seq (.region [⟨(some 5), (.mov (.const (.c (.val (.int .i64 0))))), none⟩])
 (.seq (.block 0 (.loop a69_c0))
 (.seq (.region [⟨(some 35), (.call 25 [(.tmp 4)]), none⟩, ⟨(some 36), (.mov (.tmp 5)), none⟩, ⟨(some 2), (.mov (.tmp 35)), none⟩, ⟨(some 3), (.mov (.tmp 36)), none⟩])
 .ret)))))⟩
set_option maxRecDepth 100000 in
theorem c69 : compFunc Tryd.prog 69 = some a69 := by kernel_rfl
def csstok_name_post (r : ((List UInt8) × Int)) : AV → Heap → Nat → Prop := fun v h' n' => v = (.tup [(S r.1), (I r.2)]) ∧ (h' = (fun _ => none)) ∧ n' = 0
abbrev csstok_name_l0_E0 (F_ : (List UInt8) → Int → Option ((List UInt8) × Int)) (o : ((List UInt8) × Int)) (R_ : St → Prop) : Prop := ∀ (b_1 : (List UInt8)) (i_1 : Int) (zb_1 : Bool) (_ : zb_1 = true → b_1 = []), F_ b_1 i_1 = some o → ∀ s, Weak 0 s ⟨(upd (upd (fun _ => none) 4 (some (.c (.ref 0 2 0 0)))) 5 (some (I i_1))), (upd (upd (fun _ => none) 0 (some (.bld 52 zb_1 1 b_1.length))) 1 (bufB zb_1 5 b_1)), 2⟩ → R_ s
abbrev csstok_name_l0_I (s_ : (List UInt8)) (F_ : Nat → (List UInt8) → Int → Option ((List UInt8) × Int)) (o : ((List UInt8) × Int)) : Nat → St → Prop := fun k s => ∃ (b_ : (List UInt8)), ∃ (i_ : Int), ∃ (zb : Bool), (zb = true → b_ = []) ∧ F_ k b_ i_ = some o ∧ s = ⟨(upd (upd (upd (fun _ => none) 0 (some (S s_))) 4 (some (.c (.ref 0 2 0 0)))) 5 (some (I i_))), (upd (upd (fun _ => none) 0 (some (.bld 52 zb 1 b_.length))) 1 (bufB zb 5 b_)), 2⟩
abbrev csstok_name_l0_H (s_ : (List UInt8)) (F_ : (List UInt8) → Int → Option ((List UInt8) × Int)) (o : ((List UInt8) × Int)) (R_ : St → Prop) : Prop := ∀ (b_ : (List UInt8)) (i_ : Int) (zb : Bool) (_ : zb = true → b_ = []), F_ b_ i_ = some o → ∀ s, Weak 0 s ⟨(upd (upd (upd (fun _ => none) 0 (some (S s_))) 4 (some (.c (.ref 0 2 0 0)))) 5 (some (I i_))), (upd (upd (fun _ => none) 0 (some (.bld 52 zb 1 b_.length))) 1 (bufB zb 5 b_)), 2⟩ → R_ s
noncomputable def csstok_name_l0 (s_ : (List UInt8)) (K0_ : (List UInt8) → Int → Option ((List UInt8) × Int)) : Nat → (List UInt8) → Int → Option ((List UInt8) × Int)
  | 0, _, _ => none
  | k + 1, b_, i_ =>
    if decide (i_ < (s_.length : Int)) then
      (sub? s_ i_ (s_.length : Int)).bind fun r_ =>
      (csstok_escape r_).bind fun r_1 =>
      if r_1 then
        (at? s_ (wi (i_ + 1))).bind fun c_ =>
        (strings_Builder_WriteByte b_ (c_.toNat : Int)).bind fun r_2 =>
        (csstok_name_l0 s_ K0_ k) r_2 (wi (i_ + 2))
      else
        (at? s_ i_).bind fun c_1 =>
        if (csstok_sign (c_1.toNat : Int)) then
          (at? s_ i_).bind fun c_2 =>
          (strings_Builder_WriteByte b_ (c_2.toNat : Int)).bind fun r_3 =>
          (csstok_name_l0 s_ K0_ k) r_3 (wi (i_ + 1))
        else
          some (b_, i_)
    else
      K0_ b_ i_
theorem csstok_name_l0_ok {mL : Int} {Q : AExit → St → Prop} {s_ : (List UInt8)} {K0_ : (List UInt8) → Int → Option ((List UInt8) × Int)} {k : Nat} {b_ : (List UInt8)} {i_ : Int} {zb : Bool} (hzb : zb = true → b_ = []) {o : ((List UInt8) × Int)} (h : csstok_name_l0 s_ K0_ k b_ i_ = some o)
    (hK0 : csstok_name_l0_E0 K0_ o (Q (.exit 0)))
    (hr : ∀ s, Ends a69.results 0 (csstok_name_post o) .ret s → Q .ret s) :
    Sv Tryd.prog (GG mL) 0 (.loop a69_c0) Q ⟨(upd (upd (upd (fun _ => none) 0 (some (S s_))) 4 (some (.c (.ref 0 2 0 0)))) 5 (some (I i_))), (upd (upd (fun _ => none) 0 (some (.bld 52 zb 1 b_.length))) 1 (bufB zb 5 b_)), 2⟩ := by
  refine Sv.loop (I := csstok_name_l0_I s_ (csstok_name_l0 s_ K0_) o) (fun k s hI => ?_) ⟨b_, i_, zb, hzb, h, rfl⟩
  clear h
  clear hzb zb i_ b_
  obtain ⟨b_, i_, zb, hzb, h, rfl⟩ := hI
  cases k with
  | zero => cases h
  | succ k =>
  rw [csstok_name_l0] at h
  have hself : csstok_name_l0_H s_ (csstok_name_l0 s_ K0_ k) o (rnd 0 (csstok_name_l0_I s_ (csstok_name_l0 s_ K0_) o) k Q) := fun b_ i_ zb hzb h s hw => ⟨_, k, hw, Nat.lt_succ_self k, b_, i_, zb, hzb, h, rfl⟩
  refine Sv.seq ?_
  refine Sv.seq ?_
  refine Sv.region ?_
  refine un (a1 rfl ?_)
  refine un (a1 rfl ?_)
  refine un (a1 (v := (I (s_.length : Int))) rfl ?_)
  refine un (a1 (v := (B (decide (i_ < (s_.length : Int))))) rfl ?_)
  refine dnil ?_
  refine Sv.cond (b := decide (i_ < (s_.length : Int))) rfl (fun hc1 => ?_) (fun hc1 => ?_)
  · replace h := ifT hc1 h
    refine Sv.skip ?_
    refine Sv.block ?_
    refine Sv.block ?_
    refine Sv.seq ?_
    refine Sv.region ?_
    refine un (a1 rfl ?_)
    refine un (a1 rfl ?_)
    obtain ⟨r_, hx1, h⟩ := bnd h
    refine un (a1 (v := (S r_)) (s_slStr rfl rfl rfl hx1) ?_)
    obtain ⟨r_1, hr1, h⟩ := bnd h
    refine un (ac_pure (csstok_escape_ok hr1) rfl rfl rfl ?_)
    refine un (a1 rfl ?_)
    refine dnil ?_
    refine Sv.cond (b := r_1) rfl (fun hc2 => ?_) (fun hc2 => ?_)
    · replace h := ifT hc2 h
      refine Sv.seq ?_
      refine Sv.region ?_
      refine un (a1 rfl ?_)
      refine un (a1 rfl ?_)
      refine un (a1 (v := (I (wi (i_ + 1)))) rfl ?_)
      obtain ⟨c_, hx2, h⟩ := bnd h
      refine un (a1 (v := (.c (.val (.int .u8 (c_.toNat : Int))))) (s_idxS rfl rfl hx2) ?_)
      obtain ⟨r_2, hr2, h⟩ := bnd h
      refine un (ac_gen (bs := [0, 1]) («as» := [(.c (.ref 0 2 0 0)), (.c (.val (.int .u8 (c_.toNat : Int))))]) (h2 := _) (h1 := (upd (upd (fun _ => none) 0 (some (.bld 52 zb 1 b_.length))) 1 (bufB zb 5 b_))) (strings_Builder_WriteByte_ok (z := zb) (l := b_) hzb hr2) rfl (.cons (.c (.ref rfl (by decide))) (.cons (avAs_free rfl) .nil)) (hsub_refl _) (.cons rfl (.cons rfl (.nil _))) (fun h => by cases h) (by decide) (by decide) (.cons (.c (.ref rfl (by decide))) (.cons (avAs_free rfl) .nil)) (.buf (by decide) rfl (.box (by decide) rfl (.bld rfl (by decide)) .nil)) ?_)
      rintro _ _ _ hn ⟨z_, hz_, rfl, rfl, rfl⟩
      refine ⟨.inl rfl, (upd (upd (rem [0, 1] _) 0 (some (.bld 52 z_ 2 r_2.length))) 2 (bufB z_ 5 r_2)), fun hbd => (m3_cons (m3_buf rfl) (m3_cons (m3_box rfl rfl) (m3_rem (in_cons (by decide) (in_cons (by decide) (in_nil _))) (.cons (by decide) (.cons (by decide) .nil)) hbd))), (.c (.val .nilIface)), 3, (by cases z_ <;> rfl), rfl, ?_⟩
      refine dnil ?_
      refine Sv.region ?_
      refine un (a1 rfl ?_)
      refine un (a1 (v := (I (wi (i_ + 2)))) rfl ?_)
      refine un (a1 rfl ?_)
      refine dnil ?_
      exact hself r_2 (wi (i_ + 2)) z_ hz_ h _ (weak_canon [0, 2] rfl (by decide) (by decide) (fun b h => absurd h (Nat.not_lt_zero _)) (.cons rfl (avAs_free rfl) (.cons rfl (.c (.ref rfl (by decide))) (.cons rfl (avAs_free rfl) .nil))) (.buf (by decide) rfl (.box (by decide) rfl (.bld rfl (by decide)) .nil)))
    · replace h := ifF hc2 h
      refine Sv.seq ?_
      refine Sv.region ?_
      refine un (a1 rfl ?_)
      refine un (a1 rfl ?_)
      obtain ⟨c_1, hx3, h⟩ := bnd h
      refine un (a1 (v := (.c (.val (.int .u8 (c_1.toNat : Int))))) (s_idxS rfl rfl hx3) ?_)
      refine un (ac_pure (csstok_sign_ok (mL := mL) (c_1.toNat : Int)) rfl rfl rfl ?_)
      refine un (a1 rfl ?_)
      refine dnil ?_
      refine Sv.cond (b := (csstok_sign (c_1.toNat : Int))) rfl (fun hc3 => ?_) (fun hc3 => ?_)
      · replace h := ifT hc3 h
        refine Sv.seq ?_
        refine Sv.region ?_
        refine un (a1 rfl ?_)
        refine un (a1 rfl ?_)
        obtain ⟨c_2, hx4, h⟩ := bnd h
        refine un (a1 (v := (.c (.val (.int .u8 (c_2.toNat : Int))))) (s_idxS rfl rfl hx4) ?_)
        obtain ⟨r_3, hr3, h⟩ := bnd h
        refine un (ac_gen (bs := [0, 1]) («as» := [(.c (.ref 0 2 0 0)), (.c (.val (.int .u8 (c_2.toNat : Int))))]) (h2 := _) (h1 := (upd (upd (fun _ => none) 0 (some (.bld 52 zb 1 b_.length))) 1 (bufB zb 5 b_))) (strings_Builder_WriteByte_ok (z := zb) (l := b_) hzb hr3) rfl (.cons (.c (.ref rfl (by decide))) (.cons (avAs_free rfl) .nil)) (hsub_refl _) (.cons rfl (.cons rfl (.nil _))) (fun h => by cases h) (by decide) (by decide) (.cons (.c (.ref rfl (by decide))) (.cons (avAs_free rfl) .nil)) (.buf (by decide) rfl (.box (by decide) rfl (.bld rfl (by decide)) .nil)) ?_)
        rintro _ _ _ hn ⟨z_1, hz_1, rfl, rfl, rfl⟩
        refine ⟨.inl rfl, (upd (upd (rem [0, 1] _) 0 (some (.bld 52 z_1 2 r_3.length))) 2 (bufB z_1 5 r_3)), fun hbd => (m3_cons (m3_buf rfl) (m3_cons (m3_box rfl rfl) (m3_rem (in_cons (by decide) (in_cons (by decide) (in_nil _))) (.cons (by decide) (.cons (by decide) .nil)) hbd))), (.c (.val .nilIface)), 3, (by cases z_1 <;> rfl), rfl, ?_⟩
        refine dnil ?_
        refine Sv.region ?_
        refine un (a1 rfl ?_)
        refine un (a1 (v := (I (wi (i_ + 1)))) rfl ?_)
        refine un (a1 rfl ?_)
        refine dnil ?_
        exact hself r_3 (wi (i_ + 1)) z_1 hz_1 h _ (weak_canon [0, 2] rfl (by decide) (by decide) (fun b h => absurd h (Nat.not_lt_zero _)) (.cons rfl (avAs_free rfl) (.cons rfl (.c (.ref rfl (by decide))) (.cons rfl (avAs_free rfl) .nil))) (.buf (by decide) rfl (.box (by decide) rfl (.bld rfl (by decide)) .nil)))
      · replace h := ifF hc3 h
        refine Sv.seq ?_
        refine Sv.region ?_
        refine un (ac_gen (bs := [0, 1]) («as» := [(.c (.ref 0 2 0 0))]) (h2 := _) (h1 := (upd (upd (fun _ => none) 0 (some (.bld 52 zb 1 b_.length))) 1 (bufB zb 5 b_))) (strings_Builder_String_ok (z := zb) (l := b_) hzb) rfl (.cons (.c (.ref rfl (by decide))) .nil) (hsub_refl _) (.cons rfl (.cons rfl (.nil _))) (fun h => by cases h) (by decide) (by decide) (.cons (.c (.ref rfl (by decide))) .nil) (.buf (by decide) rfl (.box (by decide) rfl (.bld rfl (by decide)) .nil)) ?_)
        rintro _ _ _ hn ⟨rfl, rfl, rfl⟩
        refine ⟨.inl rfl, (rem [0, 1] _), fun hbd => (m3_rem (in_cons (by decide) (in_cons (by decide) (in_nil _))) (.nil) hbd), (S b_), 2, rfl, rfl, ?_⟩
        refine un (a1 rfl ?_)
        refine un (a1 rfl ?_)
        refine un (a1 rfl ?_)
        refine dnil ?_
        refine Sv.ret ?_
        replace h := Option.some.inj h
        subst h
        exact hr _ ⟨_, .refl _, _, rfl, ⟨upd (fun _ => none) 0 (some (.tup [(S b_), (I i_)])), (fun _ => none), 0⟩, (.tup [(S b_), (I i_)]), weak_canon [] rfl List.nodup_nil (Nat.le_refl _) (fun b h => absurd h (Nat.not_lt_zero _)) (.cons rfl (avAs_tup (.cons (avAs_free rfl) (.cons (avAs_free rfl) .nil))) .nil) .nil, rfl, rfl, rfl, rfl⟩
  · replace h := ifF hc1 h
    refine Sv.exit ?_
    exact hK0 b_ i_ zb hzb h _ (weak_canon [0, 1] rfl (by decide) (by decide) (fun b h => absurd h (Nat.not_lt_zero _)) (.cons rfl (avAs_free rfl) (.cons rfl (.c (.ref rfl (by decide))) .nil)) (.buf (by decide) rfl (.box (by decide) rfl (.bld rfl (by decide)) .nil)))
/-- clerestory/csstok.name -/
noncomputable def csstok_name (s_ : (List UInt8)) : Option ((List UInt8) × Int) :=
  limF fun kk => csstok_name_l0 s_ (fun (b_1 : (List UInt8)) (i_1 : Int) => 
      some (b_1, i_1)) kk ([] : List UInt8) 0
theorem csstok_name_ok {mL : Int} {s_ : (List UInt8)} {r : ((List UInt8) × Int)} (h : csstok_name s_ = some r) : CPure Tryd.prog (GG mL) 69 [(S s_)] (.tup [(S r.1), (I r.2)]) := by
  refine acalls_of_sv hmix c69 (R := csstok_name_post r) ?_
  unfold csstok_name at h
  refine Sv.seq ?_
  refine Sv.region ?_
  refine un (a1 rfl ?_)
  refine un (a1 rfl ?_)
  refine dnil ?_
  refine Sv.seq ?_
  refine Sv.region ?_
  refine un (a2v (v := (.c (.ref 1 2 0 0))) (h' := upd _ 1 (some (.bld 52 true 0 ([] : List UInt8).length))) (n' := 2) rfl rfl (fun h => by cases h) ?_)
  refine dnil ?_
  refine Sv.seq ?_
  refine Sv.region ?_
  refine un (a1 rfl ?_)
  refine dnil ?_
  refine Sv.seq ?_
  refine Sv.block ?_
  obtain ⟨kk, h⟩ := limF_some h
  refine Sv.weak (weak_canon [1, 1000] rfl (by decide) (by decide) (fun b h => absurd h (Nat.not_lt_zero _)) (.cons rfl (avAs_free rfl) (.cons rfl (.c (.ref rfl (by decide))) (.cons rfl (avAs_free rfl) .nil))) (.nonB (by decide) (.box (by decide) rfl (.bldN (by decide)) .nil))) (csstok_name_l0_ok (fun _ => rfl) h ?_ (fun s hs => hs))
  · intro b_1 i_1 zb_1 hzb_1 h _ hw1
    refine Sv.weak hw1 ?_
    refine Sv.seq ?_
    refine Sv.region ?_
    refine un (ac_gen (bs := [0, 1]) («as» := [(.c (.ref 0 2 0 0))]) (h2 := _) (h1 := (upd (upd (fun _ => none) 0 (some (.bld 52 zb_1 1 b_1.length))) 1 (bufB zb_1 5 b_1))) (strings_Builder_String_ok (z := zb_1) (l := b_1) hzb_1) rfl (.cons (.c (.ref rfl (by decide))) .nil) (hsub_refl _) (.cons rfl (.cons rfl (.nil _))) (fun h => by cases h) (by decide) (by decide) (.cons (.c (.ref rfl (by decide))) .nil) (.buf (by decide) rfl (.box (by decide) rfl (.bld rfl (by decide)) .nil)) ?_)
    rintro _ _ _ hn ⟨rfl, rfl, rfl⟩
    refine ⟨.inl rfl, (rem [0, 1] _), fun hbd => (m3_rem (in_cons (by decide) (in_cons (by decide) (in_nil _))) (.nil) hbd), (S b_1), 2, rfl, rfl, ?_⟩
    refine un (a1 rfl ?_)
    refine un (a1 rfl ?_)
    refine un (a1 rfl ?_)
    refine dnil ?_
    refine Sv.ret ?_
    replace h := Option.some.inj h
    subst h
    exact ⟨_, .refl _, _, rfl, ⟨upd (fun _ => none) 0 (some (.tup [(S b_1), (I i_1)])), (fun _ => none), 0⟩, (.tup [(S b_1), (I i_1)]), weak_canon [] rfl List.nodup_nil (Nat.le_refl _) (fun b h => absurd h (Nat.not_lt_zero _)) (.cons rfl (avAs_tup (.cons (avAs_free rfl) (.cons (avAs_free rfl) .nil))) .nil) .nil, rfl, rfl, rfl, rfl⟩
def a48 : AFunc := ⟨3, [(.cell true 4 6)], (.seq (.region [⟨(some 6), (.box (.const (.agg [(.val (.int .i64 0)), (.str []), (.str []), (.val (.int .i64 0))]))), none⟩])
 (.seq (.region [⟨(some 10), (.mov (.tmp 1)), none⟩, ⟨(some 11), (.mov (.tmp 2)), none⟩, ⟨(some 12), (.slStr (.tmp 10) (some (.tmp 11)) none), none⟩, ⟨(some 13), (.call 69 [(.tmp 12)]), none⟩, ⟨(some 9), (.mov (.tmp 13)), none⟩, ⟨(some 14), (.ext (.tmp 9) 0), none⟩, ⟨(some 15), (.ext (.tmp 9) 1), none⟩, ⟨(some 7), (.mov (.tmp 14)), none⟩, ⟨(some 8), (.mov (.tmp 15)), none⟩])
 (.seq (.region [⟨(some 16), (.mov (.tmp 0)), none⟩, ⟨(some 17), (.mov (.tmp 1)), none⟩, ⟨(some 18), (.mov (.tmp 2)), none⟩, ⟨(some 19), (.mov (.tmp 8)), none⟩, ⟨(some 20), (.bin .add (.tmp 18) (.tmp 19)), none⟩, ⟨(some 21), (.slStr (.tmp 17) none (some (.tmp 20))), none⟩, ⟨(some 22), (.mov (.tmp 7)), none⟩, ⟨(some 23), (.build [(.val (.int .i64 0)), (.str []), (.str []), (.val (.int .i64 0))] [(0, (1, (.tmp 16))), (1, (1, (.tmp 21))), (2, (1, (.tmp 22)))]), none⟩, ⟨none, (.store 4 (.tmp 6) (.tmp 23)), none⟩])
 .ret)))⟩
set_option maxRecDepth 100000 in
theorem c48 : compFunc Tryd.prog 48 = some a48 := by kernel_rfl
def csstok_named_post (r : TSToken) : AV → Heap → Nat → Prop := fun v h' n' => v = (.agg [cI r.Kind, .str r.Raw, .str r.Value, cI r.Num]) ∧ (h' = (fun _ => none)) ∧ n' = 0
/-- clerestory/csstok.named -/
noncomputable def csstok_named (kind : Int) (s_ : (List UInt8)) (ahead : Int) : Option TSToken :=
  (sub? s_ ahead (s_.length : Int)).bind fun r_ =>
  (csstok_name r_).bind fun r_1 =>
  (sub? s_ 0 (wi (ahead + r_1.2))).bind fun r_2 =>
  some (⟨kind, r_2, r_1.1, 0⟩ : TSToken)
theorem csstok_named_ok {mL : Int} {kind : Int} {s_ : (List UInt8)} {ahead : Int} {r : TSToken} (h : csstok_named kind s_ ahead = some r) : CPure Tryd.prog (GG mL) 48 [(I kind), (S s_), (I ahead)] (.agg [cI r.Kind, .str r.Raw, .str r.Value, cI r.Num]) := by
  refine acalls_of_sv hmix c48 (R := csstok_named_post r) ?_
  unfold csstok_named at h
  refine Sv.seq ?_
  refine Sv.region ?_
  refine un (a2v (v := (.c (.ref 0 4 0 0))) (h' := upd _ 0 (some (.cells 4 [[cI 0, .str [], .str [], cI 0]]))) (n' := 1) rfl rfl (fun h => by cases h) ?_)
  refine dnil ?_
  refine Sv.seq ?_
  refine Sv.region ?_
  refine un (a1 rfl ?_)
  refine un (a1 rfl ?_)
  obtain ⟨r_, hx1, h⟩ := bnd h
  refine un (a1 (v := (S r_)) (s_slStr rfl rfl rfl hx1) ?_)
  obtain ⟨r_1, hr1, h⟩ := bnd h
  refine un (ac_pure (csstok_name_ok hr1) rfl rfl rfl ?_)
  refine un (a1 rfl ?_)
  refine un (a1 (v := (S r_1.1)) rfl ?_)
  refine un (a1 (v := (I r_1.2)) rfl ?_)
  refine un (a1 rfl ?_)
  refine un (a1 rfl ?_)
  refine dnil ?_
  refine Sv.seq ?_
  refine Sv.region ?_
  refine un (a1 rfl ?_)
  refine un (a1 rfl ?_)
  refine un (a1 rfl ?_)
  refine un (a1 rfl ?_)
  refine un (a1 (v := (I (wi (ahead + r_1.2)))) rfl ?_)
  obtain ⟨r_2, hx2, h⟩ := bnd h
  refine un (a1 (v := (S r_2)) (s_slStr rfl rfl rfl hx2) ?_)
  refine un (a1 rfl ?_)
  refine un (a1 (v := (.agg [cI kind, .str r_2, .str r_1.1, cI 0])) rfl ?_)
  refine un (a2n (h' := upd _ 0 (some (.cells 4 [[cI kind, .str r_2, .str r_1.1, cI 0]]))) (n' := 1) rfl rfl (fun h => by cases h) ?_)
  refine dnil ?_
  refine Sv.ret ?_
  replace h := Option.some.inj h
  subst h
  exact ⟨_, .refl _, _, rfl, ⟨upd (fun _ => none) 0 (some (.agg [cI kind, .str r_2, .str r_1.1, cI 0])), (fun _ => none), 0⟩, (.agg [cI kind, .str r_2, .str r_1.1, cI 0]), weak_canon [] rfl List.nodup_nil (Nat.le_refl _) (fun b h => absurd h (Nat.not_lt_zero _)) (.cons rfl (avAs_free rfl) .nil) .nil, rfl, rfl, rfl, rfl⟩
def a49_c0 : ACode := .ret
def a49_c2 : ACode := .ret
def a49_c1 : ACode := (.seq (.region [⟨(some 26), (.mov (.tmp 0)), none⟩, ⟨(some 27), (.idxS (.tmp 26) (.const (.c (.val (.int .i64 0))))), none⟩, ⟨(some 28), (.call 67 [(.tmp 27)]), none⟩, ⟨(some 29), (.mov (.tmp 28)), none⟩, ⟨(some 30), (.mov (.tmp 0)), (some (29, false))⟩, ⟨(some 31), (.call 47 [(.tmp 30)]), (some (29, false))⟩, ⟨(some 32), (.pick (.tmp 29) (.const (.c (.val (.bool true)))) (.tmp 31)), none⟩, ⟨(some 2), (.mov (.tmp 32)), none⟩])
 a49_c2)
def a49 : AFunc := ⟨1, [(.tmp 2)], (.seq (.region [⟨(some 2), (.mov (.const (.c (.val (.bool false))))), none⟩])
 (.seq (.seq (.region [⟨(some 3), (.mov (.tmp 0)), none⟩, ⟨(some 4), (.bin .eql (.tmp 3) (.const (.c (.str [])))), none⟩])
 (.cond (.tmp 4) (.seq (.region [⟨(some 2), (.mov (.const (.c (.val (.bool false))))), none⟩])
 .ret) .skip))
 (.seq (.seq (.region [⟨(some 5), (.mov (.tmp 0)), none⟩, ⟨(some 6), (.idxS (.tmp 5) (.const (.c (.val (.int .i64 0))))), none⟩, ⟨(some 7), (.bin .eql (.tmp 6) (.const (.c (.val (.int .u8 45))))), none⟩, ⟨(some 8), (.mov (.tmp 7)), none⟩, ⟨(some 9), (.mov (.tmp 0)), (some (8, true))⟩, ⟨(some 10), (.lenS (.tmp 9)), (some (8, true))⟩, ⟨(some 11), (.bin .gtr (.tmp 10) (.const (.c (.val (.int .i64 1))))), (some (8, true))⟩, ⟨(some 12), (.pick (.tmp 8) (.tmp 11) (.const (.c (.val (.bool false))))), none⟩])
 (.cond (.tmp 12) (.seq (.region [⟨(some 13), (.mov (.tmp 0)), none⟩, ⟨(some 14), (.idxS (.tmp 13) (.const (.c (.val (.int .i64 1))))), none⟩, ⟨(some 15), (.bin .eql (.tmp 14) (.const (.c (.val (.int .u8 45))))), none⟩, ⟨(some 16), (.mov (.tmp 15)), none⟩, ⟨(some 17), (.mov (.tmp 0)), (some (16, false))⟩, ⟨(some 18), (.idxS (.tmp 17) (.const (.c (.val (.int .i64 1))))), (some (16, false))⟩, ⟨(some 19), (.call 67 [(.tmp 18)]), (some (16, false))⟩, ⟨(some 20), (.pick (.tmp 16) (.const (.c (.val (.bool true)))) (.tmp 19)), none⟩, ⟨(some 21), (.mov (.tmp 20)), none⟩, ⟨(some 22), (.mov (.tmp 0)), (some (21, false))⟩, ⟨(some 23), (.slStr (.tmp 22) (some (.const (.c (.val (.int .i64 1))))) none), (some (21, false))⟩, ⟨(some 24), (.call 47 [(.tmp 23)]), (some (21, false))⟩, ⟨(some 25), (.pick (.tmp 21) (.const (.c (.val (.bool true)))) (.tmp 24)), none⟩, ⟨(some 2), (.mov (.tmp 25)), none⟩])
 a49_c0) .skip))
 a49_c1)))⟩
set_option maxRecDepth 100000 in
theorem c49 : compFunc Tryd.prog 49 = some a49 := by kernel_rfl
def csstok_begins_post (r : Bool) : AV → Heap → Nat → Prop := fun v h' n' => v = (B r) ∧ (h' = (fun _ => none)) ∧ n' = 0
abbrev csstok_begins_q0 (mL : Int) (o : Bool) : AExit → St → Prop := AThen (Sv Tryd.prog (GG mL) 0 a49_c1 (Ends a49.results 0 (csstok_begins_post o))) (Ends a49.results 0 (csstok_begins_post o))
noncomputable def csstok_begins_j1 (v2 : Bool) : Option Bool :=
  some v2
theorem csstok_begins_j1_ok {mL : Int} {v2 : Bool} {o : Bool} (h : csstok_begins_j1 v2 = some o) :
    Sv Tryd.prog (GG mL) 0 a49_c0 (csstok_begins_q0 mL o) ⟨(upd (fun _ => none) 2 (some (B v2))), (fun _ => none), 0⟩ := by
  unfold csstok_begins_j1 at h
  refine Sv.ret ?_
  replace h := Option.some.inj h
  subst h
  exact ⟨_, .refl _, _, rfl, ⟨upd (fun _ => none) 0 (some (B v2)), (fun _ => none), 0⟩, (B v2), weak_canon [] rfl List.nodup_nil (Nat.le_refl _) (fun b h => absurd h (Nat.not_lt_zero _)) (.cons rfl (avAs_free rfl) .nil) .nil, rfl, rfl, rfl, rfl⟩
noncomputable def csstok_begins_j2 (v21 : Bool) : Option Bool :=
  some v21
theorem csstok_begins_j2_ok {mL : Int} {v21 : Bool} {o : Bool} (h : csstok_begins_j2 v21 = some o) :
    Sv Tryd.prog (GG mL) 0 a49_c2 (Ends a49.results 0 (csstok_begins_post o)) ⟨(upd (fun _ => none) 2 (some (B v21))), (fun _ => none), 0⟩ := by
  unfold csstok_begins_j2 at h
  refine Sv.ret ?_
  replace h := Option.some.inj h
  subst h
  exact ⟨_, .refl _, _, rfl, ⟨upd (fun _ => none) 0 (some (B v21)), (fun _ => none), 0⟩, (B v21), weak_canon [] rfl List.nodup_nil (Nat.le_refl _) (fun b h => absurd h (Nat.not_lt_zero _)) (.cons rfl (avAs_free rfl) .nil) .nil, rfl, rfl, rfl, rfl⟩
/-- clerestory/csstok.begins -/
noncomputable def csstok_begins (s_ : (List UInt8)) : Option Bool :=
  if decide (s_ = []) then
    some false
  else
    (at? s_ 0).bind fun c_ =>
    if ((decide ((c_.toNat : Int) = 45)) && (decide (1 < (s_.length : Int)))) then
      (at? s_ 1).bind fun c_1 =>
      if decide ((c_1.toNat : Int) = 45) then
        csstok_begins_j1 true
      else
        (at? s_ 1).bind fun c_2 =>
        if (csstok_starts (c_2.toNat : Int)) then
          csstok_begins_j1 true
        else
          (sub? s_ 1 (s_.length : Int)).bind fun r_ =>
          (csstok_escape r_).bind fun r_1 =>
          csstok_begins_j1 r_1
    else
      (at? s_ 0).bind fun c_3 =>
      if (csstok_starts (c_3.toNat : Int)) then
        csstok_begins_j2 true
      else
        (csstok_escape s_).bind fun r_2 =>
        csstok_begins_j2 r_2
theorem csstok_begins_ok {mL : Int} {s_ : (List UInt8)} {r : Bool} (h : csstok_begins s_ = some r) : CPure Tryd.prog (GG mL) 49 [(S s_)] (B r) := by
  refine acalls_of_sv hmix c49 (R := csstok_begins_post r) ?_
  unfold csstok_begins at h
  refine Sv.seq ?_
  refine Sv.region ?_
  refine un (a1 rfl ?_)
  refine dnil ?_
  refine Sv.seq ?_
  refine Sv.seq ?_
  refine Sv.region ?_
  refine un (a1 rfl ?_)
  refine un (a1 (v := (B (decide (s_ = [])))) rfl ?_)
  refine dnil ?_
  refine Sv.cond (b := decide (s_ = [])) rfl (fun hc1 => ?_) (fun hc1 => ?_)
  · replace h := ifT hc1 h
    refine Sv.seq ?_
    refine Sv.region ?_
    refine un (a1 rfl ?_)
    refine dnil ?_
    refine Sv.ret ?_
    replace h := Option.some.inj h
    subst h
    exact ⟨_, .refl _, _, rfl, ⟨upd (fun _ => none) 0 (some (B false)), (fun _ => none), 0⟩, (B false), weak_canon [] rfl List.nodup_nil (Nat.le_refl _) (fun b h => absurd h (Nat.not_lt_zero _)) (.cons rfl (avAs_free rfl) .nil) .nil, rfl, rfl, rfl, rfl⟩
  · replace h := ifF hc1 h
    refine Sv.skip ?_
    refine Sv.seq ?_
    refine Sv.seq ?_
    refine Sv.region ?_
    refine un (a1 rfl ?_)
    obtain ⟨c_, hx1, h⟩ := bnd h
    refine un (a1 (v := (.c (.val (.int .u8 (c_.toNat : Int))))) (s_idxS rfl rfl hx1) ?_)
    refine un (a1 (v := (B (decide ((c_.toNat : Int) = 45)))) rfl ?_)
    refine un (a1 rfl ?_)
    refine gjoin 4 (d := 12) (v := (B ((decide ((c_.toNat : Int) = 45)) && (decide (1 < (s_.length : Int)))))) (fun X hX => ?_) ?_
    · refine split2 (fun hc2 => ?_) (fun hc2 => ?_)
      · refine gt rfl (a1 rfl ?_)
        refine gt rfl (a1 (v := (I (s_.length : Int))) rfl ?_)
        refine gt rfl (a1 (v := (B (decide (1 < (s_.length : Int))))) rfl ?_)
        refine un (a1 (v := (B (decide (1 < (s_.length : Int))))) rfl ?_)
        refine dnil ?_
        exact hX _ (.putEq (by rw [hc2]; rfl) (.skip _ _ (.skip _ _ (.skip _ _ (.putEq (by rw [hc2]) (.refl _)) rfl) rfl) rfl))
      · refine gs rfl rfl ?_
        refine gs rfl rfl ?_
        refine gs rfl rfl ?_
        refine un (a1 (v := (B false)) rfl ?_)
        refine dnil ?_
        exact hX _ (.putEq (by rw [hc2]; rfl) (.skip _ _ (.skip _ _ (.skip _ _ (.putEq (by rw [hc2]) (.refl _)) rfl) rfl) rfl))
    refine dnil ?_
    refine Sv.cond (b := ((decide ((c_.toNat : Int) = 45)) && (decide (1 < (s_.length : Int))))) rfl (fun hc3 => ?_) (fun hc3 => ?_)
    · replace h := ifT hc3 h
      refine Sv.seq ?_
      refine Sv.region ?_
      refine un (a1 rfl ?_)
      obtain ⟨c_1, hx2, h⟩ := bnd h
      refine un (a1 (v := (.c (.val (.int .u8 (c_1.toNat : Int))))) (s_idxS rfl rfl hx2) ?_)
      refine un (a1 (v := (B (decide ((c_1.toNat : Int) = 45)))) rfl ?_)
      refine un (a1 rfl ?_)
      refine split2 (fun hc4 => ?_) (fun hc4 => ?_)
      · replace h := ifT hc4 h
        refine gs rfl rfl ?_
        refine gs rfl rfl ?_
        refine gs rfl rfl ?_
        refine un (a1 (v := (B true)) rfl ?_)
        refine un (a1 rfl ?_)
        refine gs rfl rfl ?_
        refine gs rfl rfl ?_
        refine gs rfl rfl ?_
        refine un (a1 (v := (B true)) rfl ?_)
        refine un (a1 rfl ?_)
        refine dnil ?_
        exact Sv.weak (weak_canon [] rfl (by decide) (by decide) (fun b h => absurd h (Nat.not_lt_zero _)) (.cons rfl (avAs_free rfl) .nil) .nil) (csstok_begins_j1_ok h)
      · replace h := ifF hc4 h
        refine gt rfl (a1 rfl ?_)
        obtain ⟨c_2, hx3, h⟩ := bnd h
        refine gt rfl (a1 (v := (.c (.val (.int .u8 (c_2.toNat : Int))))) (s_idxS rfl rfl hx3) ?_)
        refine gt rfl (ac_pure (csstok_starts_ok (mL := mL) (c_2.toNat : Int)) rfl rfl rfl ?_)
        refine un (a1 (v := (B (csstok_starts (c_2.toNat : Int)))) rfl ?_)
        refine un (a1 rfl ?_)
        refine split2 (fun hc5 => ?_) (fun hc5 => ?_)
        · replace h := ifT hc5 h
          refine gs rfl rfl ?_
          refine gs rfl rfl ?_
          refine gs rfl rfl ?_
          refine un (a1 (v := (B true)) rfl ?_)
          refine un (a1 rfl ?_)
          refine dnil ?_
          exact Sv.weak (weak_canon [] rfl (by decide) (by decide) (fun b h => absurd h (Nat.not_lt_zero _)) (.cons rfl (avAs_free rfl) .nil) .nil) (csstok_begins_j1_ok h)
        · replace h := ifF hc5 h
          refine gt rfl (a1 rfl ?_)
          obtain ⟨r_, hx4, h⟩ := bnd h
          refine gt rfl (a1 (v := (S r_)) (s_slStr rfl rfl rfl hx4) ?_)
          obtain ⟨r_1, hr1, h⟩ := bnd h
          refine gt rfl (ac_pure (csstok_escape_ok hr1) rfl rfl rfl ?_)
          refine un (a1 (v := (B r_1)) rfl ?_)
          refine un (a1 rfl ?_)
          refine dnil ?_
          exact Sv.weak (weak_canon [] rfl (by decide) (by decide) (fun b h => absurd h (Nat.not_lt_zero _)) (.cons rfl (avAs_free rfl) .nil) .nil) (csstok_begins_j1_ok h)
    · replace h := ifF hc3 h
      refine Sv.skip ?_
      refine Sv.seq ?_
      refine Sv.region ?_
      refine un (a1 rfl ?_)
      obtain ⟨c_3, hx5, h⟩ := bnd h
      refine un (a1 (v := (.c (.val (.int .u8 (c_3.toNat : Int))))) (s_idxS rfl rfl hx5) ?_)
      refine un (ac_pure (csstok_starts_ok (mL := mL) (c_3.toNat : Int)) rfl rfl rfl ?_)
      refine un (a1 rfl ?_)
      refine split2 (fun hc6 => ?_) (fun hc6 => ?_)
      · replace h := ifT hc6 h
        refine gs rfl rfl ?_
        refine gs rfl rfl ?_
        refine un (a1 (v := (B true)) rfl ?_)
        refine un (a1 rfl ?_)
        refine dnil ?_
        exact Sv.weak (weak_canon [] rfl (by decide) (by decide) (fun b h => absurd h (Nat.not_lt_zero _)) (.cons rfl (avAs_free rfl) .nil) .nil) (csstok_begins_j2_ok h)
      · replace h := ifF hc6 h
        refine gt rfl (a1 rfl ?_)
        obtain ⟨r_2, hr2, h⟩ := bnd h
        refine gt rfl (ac_pure (csstok_escape_ok hr2) rfl rfl rfl ?_)
        refine un (a1 (v := (B r_2)) rfl ?_)
        refine un (a1 rfl ?_)
        refine dnil ?_
        exact Sv.weak (weak_canon [] rfl (by decide) (by decide) (fun b h => absurd h (Nat.not_lt_zero _)) (.cons rfl (avAs_free rfl) .nil) .nil) (csstok_begins_j2_ok h)
def a70 : AFunc := ⟨1, [(.tmp 2)], (.seq (.region [⟨(some 2), (.mov (.const (.c (.val (.int .i64 0))))), none⟩])
 (.seq (.region [⟨(some 3), (.mov (.tmp 0)), none⟩, ⟨(some 4), (.lenS (.tmp 3)), none⟩, ⟨(some 5), (.mov (.tmp 0)), none⟩, ⟨(some 6), (.call 42 [(.tmp 5), (.const (.c (.str [48, 49, 50, 51, 52, 53, 54, 55, 56, 57])))]), none⟩, ⟨(some 7), (.lenS (.tmp 6)), none⟩, ⟨(some 8), (.bin .sub (.tmp 4) (.tmp 7)), none⟩, ⟨(some 2), (.mov (.tmp 8)), none⟩])
 .ret))⟩
set_option maxRecDepth 100000 in
theorem c70 : compFunc Tryd.prog 70 = some a70 := by kernel_rfl
def csstok_digits_post (r : Int) : AV → Heap → Nat → Prop := fun v h' n' => v = (I r) ∧ (h' = (fun _ => none)) ∧ n' = 0
/-- clerestory/csstok.digits -/
noncomputable def csstok_digits (s_ : (List UInt8)) : Option Int :=
  (strings_TrimLeft s_ [48, 49, 50, 51, 52, 53, 54, 55, 56, 57]).bind fun r_ =>
  some (wi ((s_.length : Int) - (r_.length : Int)))
theorem csstok_digits_ok {mL : Int} {s_ : (List UInt8)} {r : Int} (h : csstok_digits s_ = some r) : CPure Tryd.prog (GG mL) 70 [(S s_)] (I r) := by
  refine acalls_of_sv hmix c70 (R := csstok_digits_post r) ?_
  unfold csstok_digits at h
  refine Sv.seq ?_
  refine Sv.region ?_
  refine un (a1 rfl ?_)
  refine dnil ?_
  refine Sv.seq ?_
  refine Sv.region ?_
  refine un (a1 rfl ?_)
  refine un (a1 (v := (I (s_.length : Int))) rfl ?_)
  refine un (a1 rfl ?_)
  obtain ⟨r_, hr1, h⟩ := bnd h
  refine un (ac_pure (strings_TrimLeft_ok hr1) rfl rfl rfl ?_)
  refine un (a1 (v := (I (r_.length : Int))) rfl ?_)
  refine un (a1 (v := (I (wi ((s_.length : Int) - (r_.length : Int))))) rfl ?_)
  refine un (a1 rfl ?_)
  refine dnil ?_
  refine Sv.ret ?_
  replace h := Option.some.inj h
  subst h
  exact ⟨_, .refl _, _, rfl, ⟨upd (fun _ => none) 0 (some (I (wi ((s_.length : Int) - (r_.length : Int))))), (fun _ => none), 0⟩, (I (wi ((s_.length : Int) - (r_.length : Int)))), weak_canon [] rfl List.nodup_nil (Nat.le_refl _) (fun b h => absurd h (Nat.not_lt_zero _)) (.cons rfl (avAs_free rfl) .nil) .nil, rfl, rfl, rfl, rfl⟩
def a52 : AFunc := ⟨2, [(.tmp 4)], (.seq (.region [⟨(some 4), (.mov (.const (.c (.val (.bool false))))), none⟩])
 (.seq (.region [⟨(some 5), (.mov (.tmp 0)), none⟩, ⟨(some 6), (.mov (.tmp 1)), none⟩, ⟨(some 7), (.call 73 [(.tmp 5), (.tmp 6)]), none⟩, ⟨(some 4), (.mov (.tmp 7)), none⟩])
 .ret))⟩
set_option maxRecDepth 100000 in
theorem c52 : compFunc Tryd.prog 52 = some a52 := by kernel_rfl
def strings_HasPrefix_post (r : Bool) : AV → Heap → Nat → Prop := fun v h' n' => v = (B r) ∧ (h' = (fun _ => none)) ∧ n' = 0
/-- strings.HasPrefix -/
noncomputable def strings_HasPrefix (s_ : (List UInt8)) (prefix_ : (List UInt8)) : Option Bool :=
  (internal_stringslite_HasPrefix s_ prefix_).bind fun r_ =>
  some r_
theorem strings_HasPrefix_ok {mL : Int} {s_ : (List UInt8)} {prefix_ : (List UInt8)} {r : Bool} (h : strings_HasPrefix s_ prefix_ = some r) : CPure Tryd.prog (GG mL) 52 [(S s_), (S prefix_)] (B r) := by
  refine acalls_of_sv hmix c52 (R := strings_HasPrefix_post r) ?_
  unfold strings_HasPrefix at h
  refine Sv.seq ?_
  refine Sv.region ?_
  refine un (a1 rfl ?_)
  refine dnil ?_
  refine Sv.seq ?_
  refine Sv.region ?_
  refine un (a1 rfl ?_)
  refine un (a1 rfl ?_)
  obtain ⟨r_, hr1, h⟩ := bnd h
  refine un (ac_pure (internal_stringslite_HasPrefix_ok hr1) rfl rfl rfl ?_)
  refine un (a1 rfl ?_)
  refine dnil ?_
  refine Sv.ret ?_
  replace h := Option.some.inj h
  subst h
  exact ⟨_, .refl _, _, rfl, ⟨upd (fun _ => none) 0 (some (B r_)), (fun _ => none), 0⟩, (B r_), weak_canon [] rfl List.nodup_nil (Nat.le_refl _) (fun b h => absurd h (Nat.not_lt_zero _)) (.cons rfl (avAs_free rfl) .nil) .nil, rfl, rfl, rfl, rfl⟩
def a71 : AFunc := ⟨2, [], (.region [⟨(some 3), (.load false 1 (.tmp 1)), none⟩, ⟨(some 4), (.bin .mul (.const (.c (.val (.int .i64 10)))) (.tmp 3)), none⟩, ⟨(some 5), (.mov (.tmp 0)), none⟩, ⟨(some 6), (.bin .sub (.tmp 5) (.const (.c (.val (.int .u8 48))))), none⟩, ⟨(some 7), (.conv .i64 (.tmp 6)), none⟩, ⟨(some 8), (.bin .add (.tmp 4) (.tmp 7)), none⟩, ⟨(some 9), (.mm false [(.tmp 8), (.const (.c (.val (.int .i64 1000000000))))]), none⟩, ⟨none, (.store 1 (.tmp 1) (.tmp 9)), none⟩])⟩
set_option maxRecDepth 100000 in
theorem c71 : compFunc Tryd.prog 71 = some a71 := by kernel_rfl
def csstok_Number_fn1_post (r : Int) : AV → Heap → Nat → Prop := fun v h' n' => v = (.tup []) ∧ (h' = (upd (fun _ => none) 0 (some (.cells 1 [[cI r]])))) ∧ n' = 1
/-- clerestory/csstok.Number$1 -/
noncomputable def csstok_Number_fn1 (c_ : Int) (v1 : Int) : Option Int :=
  some (mn (wi ((wi (10 * v1)) + (wr .i64 (wr .u8 (c_ - 48))))) 1000000000)
theorem csstok_Number_fn1_ok {mL : Int} {c_ : Int} {v1 : Int} {r : Int} (h : csstok_Number_fn1 c_ v1 = some r) : ACalls Tryd.prog (GG mL) 71 [(.c (.val (.int .u8 c_))), (.c (.ref 0 1 0 0))] (upd (fun _ => none) 0 (some (.cells 1 [[cI v1]]))) 1 (csstok_Number_fn1_post r) := by
  refine acalls_of_sv hmix c71 (R := csstok_Number_fn1_post r) ?_
  unfold csstok_Number_fn1 at h
  refine Sv.region ?_
  refine un (a1 (v := (I v1)) rfl ?_)
  refine un (a1 (v := (I (wi (10 * v1)))) rfl ?_)
  refine un (a1 rfl ?_)
  refine un (a1 (v := (.c (.val (.int .u8 (wr .u8 (c_ - 48)))))) rfl ?_)
  refine un (a1 (v := (I (wr .i64 (wr .u8 (c_ - 48))))) rfl ?_)
  refine un (a1 (v := (I (wi ((wi (10 * v1)) + (wr .i64 (wr .u8 (c_ - 48))))))) rfl ?_)
  refine un (a1 (v := (I (mn (wi ((wi (10 * v1)) + (wr .i64 (wr .u8 (c_ - 48))))) 1000000000))) (s_mn rfl rfl) ?_)
  refine un (a2n (h' := upd _ 0 (some (.cells 1 [[cI (mn (wi ((wi (10 * v1)) + (wr .i64 (wr .u8 (c_ - 48))))) 1000000000)]]))) (n' := 1) rfl rfl (fun h => by cases h) ?_)
  refine dnil ?_
  replace h := Option.some.inj h
  subst h
  exact ⟨_, .refl _, _, rfl, ⟨upd (fun _ => none) 0 (some (.tup [])), (upd (fun _ => none) 0 (some (.cells 1 [[cI (mn (wi ((wi (10 * v1)) + (wr .i64 (wr .u8 (c_ - 48))))) 1000000000)]]))), 1⟩, (.tup []), weak_canon2 [0] [0] (by decide) (by decide) (by decide) (.cons (by decide) .nil) (.cons rfl (avAs_tup .nil) .nil) (.box (by decide) rfl (blkAs_cells (.cons (.same rfl) .nil)) .nil), rfl, rfl, rfl, rfl⟩
def a50_c0 : ACode := (.cond (.tmp 26) (.region [⟨(some 4), (.mov (.const (.c (.val (.int .i64 1))))), none⟩]) .skip)
def a50_c3 : ACode := (.seq (.region [⟨(some 55), (.bin .lss (.tmp 54) (.tmp 53)), none⟩])
 (.seq (.cond (.tmp 55) .skip (.exit 0))
 (.seq (.block 1 (.seq (.region [⟨(some 56), (.iaddr 1 (.tmp 52) (.tmp 54)), none⟩, ⟨(some 57), (.load false 1 (.tmp 56)), none⟩, ⟨(some 11), (.mov (.tmp 57)), none⟩])
 (.region [⟨(some 58), (.mov (.tmp 9)), none⟩, ⟨(some 59), (.mov (.tmp 11)), none⟩, ⟨(some 60), (.callv (.tmp 58) [(.tmp 59)]), none⟩])))
 (.region [⟨(some 61), (.bin .add (.tmp 54) (.const (.c (.val (.int .i64 1))))), none⟩, ⟨(some 54), (.mov (.tmp 61)), none⟩]))))
def a50_c5 : ACode := (.region [⟨(some 93), (.bin .add (.tmp 79) (.const (.c (.val (.int .i64 1))))), none⟩, ⟨(some 79), (.mov (.tmp 93)), none⟩])
def a50_c6 : ACode := (.seq (.region [⟨(some 80), (.bin .lss (.tmp 79) (.const (.c (.val (.int .i64 3))))), none⟩])
 (.seq (.cond (.tmp 80) .skip (.exit 2))
 (.seq (.block 3 (.seq (.region [⟨(some 81), (.mov (.tmp 79)), none⟩, ⟨(some 14), (.mov (.tmp 81)), none⟩])
 (.seq (.region [⟨(some 82), (.mov (.tmp 14)), none⟩, ⟨(some 83), (.mov (.tmp 13)), none⟩, ⟨(some 84), (.lenS (.tmp 83)), none⟩, ⟨(some 85), (.bin .lss (.tmp 82) (.tmp 84)), none⟩])
 (.cond (.tmp 85) (.region [⟨(some 86), (.mov (.tmp 9)), none⟩, ⟨(some 87), (.mov (.tmp 13)), none⟩, ⟨(some 88), (.mov (.tmp 14)), none⟩, ⟨(some 89), (.idxS (.tmp 87) (.tmp 88)), none⟩, ⟨(some 90), (.callv (.tmp 86) [(.tmp 89)]), none⟩]) (.region [⟨(some 91), (.mov (.tmp 9)), none⟩, ⟨(some 92), (.callv (.tmp 91) [(.const (.c (.val (.int .u8 48))))]), none⟩])))))
 a50_c5)))
def a50_c7 : ACode := (.seq (.region [⟨(some 99), (.load false 1 (.tmp 8)), none⟩, ⟨(some 100), (.mov (.tmp 12)), none⟩, ⟨(some 2), (.mov (.tmp 99)), none⟩, ⟨(some 3), (.mov (.tmp 100)), none⟩])
 .ret)
def a50_c4 : ACode := (.seq (.seq (.region [⟨(some 79), (.mov (.const (.c (.val (.int .i64 0))))), none⟩])
 (.block 2 (.loop a50_c6)))
 (.seq (.seq (.region [⟨(some 94), (.mov (.tmp 0)), none⟩, ⟨(some 95), (.idxS (.tmp 94) (.const (.c (.val (.int .i64 0))))), none⟩, ⟨(some 96), (.bin .eql (.tmp 95) (.const (.c (.val (.int .u8 45))))), none⟩])
 (.cond (.tmp 96) (.region [⟨(some 97), (.load false 1 (.tmp 8)), none⟩, ⟨(some 98), (.un .neg (.tmp 97)), none⟩, ⟨none, (.store 1 (.tmp 8) (.tmp 98)), none⟩]) .skip))
 a50_c7))
def a50_c2 : ACode := (.seq (.seq (.region [⟨(some 41), (.mov (.tmp 5)), none⟩, ⟨(some 42), (.mov (.tmp 6)), none⟩, ⟨(some 43), (.bin .add (.tmp 41) (.tmp 42)), none⟩, ⟨(some 44), (.bin .eql (.tmp 43) (.const (.c (.val (.int .i64 0))))), none⟩])
 (.cond (.tmp 44) (.seq (.region [⟨(some 2), (.mov (.const (.c (.val (.int .i64 0))))), none⟩, ⟨(some 3), (.mov (.const (.c (.val (.int .i64 0))))), none⟩])
 .ret) .skip))
 (.seq (.region [⟨(some 8), (.box (.const (.c (.val (.int .i64 0))))), none⟩, ⟨none, (.store 1 (.tmp 8) (.const (.c (.val (.int .i64 0))))), none⟩])
 (.seq (.region [⟨(some 45), (.mkfn (.func 71) [] [(.tmp 8)]), none⟩, ⟨(some 9), (.mov (.tmp 45)), none⟩])
 (.seq (.seq (.region [⟨(some 46), (.mov (.tmp 0)), none⟩, ⟨(some 47), (.mov (.tmp 4)), none⟩, ⟨(some 48), (.mov (.tmp 4)), none⟩, ⟨(some 49), (.mov (.tmp 5)), none⟩, ⟨(some 50), (.bin .add (.tmp 48) (.tmp 49)), none⟩, ⟨(some 51), (.slStr (.tmp 46) (some (.tmp 47)) (some (.tmp 50))), none⟩, ⟨(some 52), (.toBytes (.tmp 51)), none⟩, ⟨(some 53), (.len (.tmp 52)), none⟩, ⟨(some 54), (.mov (.const (.c (.val (.int .i64 0))))), none⟩])
 (.block 0 (.loop a50_c3)))
 (.seq (.region [⟨(some 62), (.mov (.tmp 4)), none⟩, ⟨(some 63), (.mov (.tmp 5)), none⟩, ⟨(some 64), (.bin .add (.tmp 62) (.tmp 63)), none⟩, ⟨(some 12), (.mov (.tmp 64)), none⟩])
 (.seq (.region [⟨(some 13), (.mov (.const (.c (.str [])))), none⟩])
 (.seq (.seq (.region [⟨(some 65), (.mov (.tmp 6)), none⟩, ⟨(some 66), (.bin .gtr (.tmp 65) (.const (.c (.val (.int .i64 0))))), none⟩])
 (.cond (.tmp 66) (.seq (.region [⟨(some 67), (.mov (.tmp 0)), none⟩, ⟨(some 68), (.mov (.tmp 12)), none⟩, ⟨(some 69), (.bin .add (.tmp 68) (.const (.c (.val (.int .i64 1))))), none⟩, ⟨(some 70), (.mov (.tmp 12)), none⟩, ⟨(some 71), (.bin .add (.tmp 70) (.const (.c (.val (.int .i64 1))))), none⟩, ⟨(some 72), (.mov (.tmp 6)), none⟩, ⟨(some 73), (.bin .add (.tmp 71) (.tmp 72)), none⟩, ⟨(some 74), (.slStr (.tmp 67) (some (.tmp 69)) (some (.tmp 73))), none⟩, ⟨(some 13), (.mov (.tmp 74)), none⟩])
 (.region [⟨(some 75), (.mov (.tmp 12)), none⟩, ⟨(some 76), (.mov (.tmp 6)), none⟩, ⟨(some 77), (.bin .add (.const (.c (.val (.int .i64 1)))) (.tmp 76)), none⟩, ⟨(some 78), (.bin .add (.tmp 75) (.tmp 77)), none⟩, ⟨(some 12), (.mov (.tmp 78)), none⟩])) .skip))
 a50_c4)))))))
def a50_c1 : ACode := (.seq (.region [⟨(some 27), (.mov (.tmp 0)), none⟩, ⟨(some 28), (.mov (.tmp 4)), none⟩, ⟨(some 29), (.slStr (.tmp 27) (some (.tmp 28)) none), none⟩, ⟨(some 30), (.call 70 [(.tmp 29)]), none⟩, ⟨(some 5), (.mov (.tmp 30)), none⟩])
 (.seq (.region [⟨(some 6), (.mov (.const (.c (.val (.int .i64 0))))), none⟩])
 (.seq (.seq (.region [⟨(some 31), (.mov (.tmp 0)), none⟩, ⟨(some 32), (.mov (.tmp 4)), none⟩, ⟨(some 33), (.mov (.tmp 5)), none⟩, ⟨(some 34), (.bin .add (.tmp 32) (.tmp 33)), none⟩, ⟨(some 35), (.slStr (.tmp 31) (some (.tmp 34)) none), none⟩, ⟨(some 7), (.mov (.tmp 35)), none⟩])
 (.seq (.region [⟨(some 36), (.mov (.tmp 7)), none⟩, ⟨(some 37), (.call 52 [(.tmp 36), (.const (.c (.str [46])))]), none⟩])
 (.cond (.tmp 37) (.region [⟨(some 38), (.mov (.tmp 7)), none⟩, ⟨(some 39), (.slStr (.tmp 38) (some (.const (.c (.val (.int .i64 1))))) none), none⟩, ⟨(some 40), (.call 70 [(.tmp 39)]), none⟩, ⟨(some 6), (.mov (.tmp 40)), none⟩]) .skip)))
 a50_c2)))
def a50 : AFunc := ⟨1, [(.tmp 2), (.tmp 3)], (.seq (.region [⟨(some 2), (.mov (.const (.c (.val (.int .i64 0))))), none⟩, ⟨(some 3), (.mov (.const (.c (.val (.int .i64 0))))), none⟩])
 (.seq (.region [⟨(some 4), (.mov (.const (.c (.val (.int .i64 0))))), none⟩])
 (.seq (.seq (.region [⟨(some 15), (.mov (.tmp 0)), none⟩, ⟨(some 16), (.bin .neq (.tmp 15) (.const (.c (.str [])))), none⟩, ⟨(some 17), (.mov (.tmp 16)), none⟩, ⟨(some 18), (.mov (.tmp 0)), (some (17, true))⟩, ⟨(some 19), (.idxS (.tmp 18) (.const (.c (.val (.int .i64 0))))), (some (17, true))⟩, ⟨(some 20), (.bin .eql (.tmp 19) (.const (.c (.val (.int .u8 43))))), (some (17, true))⟩, ⟨(some 21), (.mov (.tmp 20)), (some (17, true))⟩, ⟨(some 22), (.mov (.tmp 0)), (some (21, false))⟩, ⟨(some 23), (.idxS (.tmp 22) (.const (.c (.val (.int .i64 0))))), (some (21, false))⟩, ⟨(some 24), (.bin .eql (.tmp 23) (.const (.c (.val (.int .u8 45))))), (some (21, false))⟩, ⟨(some 25), (.pick (.tmp 21) (.const (.c (.val (.bool true)))) (.tmp 24)), (some (17, true))⟩, ⟨(some 26), (.pick (.tmp 17) (.tmp 25) (.const (.c (.val (.bool false))))), none⟩])
 a50_c0)
 a50_c1)))⟩
set_option maxRecDepth 100000 in
theorem c50 : compFunc Tryd.prog 50 = some a50 := by kernel_rfl
def csstok_Number_post (r : (Int × Int)) : AV → Heap → Nat → Prop := fun v h' n' => v = (.tup [(I r.1), (I r.2)]) ∧ (h' = (fun _ => none)) ∧ n' = 0
abbrev csstok_Number_l0_E0 (s_ : (List UInt8)) (from_ : Int) (r_1 : Int) (behind : Int) (F_ : Int → Option (Int × Int)) (o : (Int × Int)) (R_ : St → Prop) : Prop := ∀ (n_1 : Int), F_ n_1 = some o → ∀ s, Weak 0 s ⟨(upd (upd (upd (upd (upd (upd (fun _ => none) 0 (some (S s_))) 4 (some (I from_))) 5 (some (I r_1))) 6 (some (I behind))) 8 (some (.c (.ref 0 1 0 0)))) 9 (some (.c (.fn (.func 71) [] [.ref 0 1 0 0])))), (upd (fun _ => none) 0 (some (.cells 1 [[cI n_1]]))), 1⟩ → R_ s
abbrev csstok_Number_l0_I (s_ : (List UInt8)) (from_ : Int) (r_1 : Int) (behind : Int) (r_2 : (List UInt8)) (F_ : Nat → Int → Int → Option (Int × Int)) (o : (Int × Int)) : Nat → St → Prop := fun k s => ∃ (n_ : Int), ∃ (v54 : Int), F_ k n_ v54 = some o ∧ s = ⟨(upd (upd (upd (upd (upd (upd (upd (upd (upd (fun _ => none) 0 (some (S s_))) 4 (some (I from_))) 5 (some (I r_1))) 6 (some (I behind))) 8 (some (.c (.ref 0 1 0 0)))) 9 (some (.c (.fn (.func 71) [] [.ref 0 1 0 0])))) 52 (some (lstV false 1 1 (ints r_2).length))) 53 (some (I ((ints r_2).length : Int)))) 54 (some (I v54))), (upd (upd (fun _ => none) 0 (some (.cells 1 [[cI n_]]))) 1 (lstB false 1 ((ints r_2).map (eK .u8)))), 2⟩
abbrev csstok_Number_l0_H (s_ : (List UInt8)) (from_ : Int) (r_1 : Int) (behind : Int) (r_2 : (List UInt8)) (F_ : Int → Int → Option (Int × Int)) (o : (Int × Int)) (R_ : St → Prop) : Prop := ∀ (n_ : Int) (v54 : Int), F_ n_ v54 = some o → ∀ s, Weak 0 s ⟨(upd (upd (upd (upd (upd (upd (upd (upd (upd (fun _ => none) 0 (some (S s_))) 4 (some (I from_))) 5 (some (I r_1))) 6 (some (I behind))) 8 (some (.c (.ref 0 1 0 0)))) 9 (some (.c (.fn (.func 71) [] [.ref 0 1 0 0])))) 52 (some (lstV false 1 1 (ints r_2).length))) 53 (some (I ((ints r_2).length : Int)))) 54 (some (I v54))), (upd (upd (fun _ => none) 0 (some (.cells 1 [[cI n_]]))) 1 (lstB false 1 ((ints r_2).map (eK .u8)))), 2⟩ → R_ s
noncomputable def csstok_Number_l0 (r_2 : (List UInt8)) (s_ : (List UInt8)) (from_ : Int) (r_1 : Int) (behind : Int) (K0_ : Int → Option (Int × Int)) : Nat → Int → Int → Option (Int × Int)
  | 0, _, _ => none
  | k + 1, n_, v54 =>
    if decide (v54 < ((ints r_2).length : Int)) then
      (at? (ints r_2) v54).bind fun x_ =>
      (csstok_Number_fn1 x_ n_).bind fun r_3 =>
      (csstok_Number_l0 r_2 s_ from_ r_1 behind K0_ k) r_3 (wi (v54 + 1))
    else
      K0_ n_
theorem csstok_Number_l0_ok {mL : Int} {Q : AExit → St → Prop} {r_2 : (List UInt8)} {s_ : (List UInt8)} {from_ : Int} {r_1 : Int} {behind : Int} {K0_ : Int → Option (Int × Int)} {k : Nat} {n_ : Int} {v54 : Int} {o : (Int × Int)} (h : csstok_Number_l0 r_2 s_ from_ r_1 behind K0_ k n_ v54 = some o)
    (hK0 : csstok_Number_l0_E0 s_ from_ r_1 behind K0_ o (Q (.exit 0)))
    (hr : ∀ s, Ends a50.results 0 (csstok_Number_post o) .ret s → Q .ret s) :
    Sv Tryd.prog (GG mL) 0 (.loop a50_c3) Q ⟨(upd (upd (upd (upd (upd (upd (upd (upd (upd (fun _ => none) 0 (some (S s_))) 4 (some (I from_))) 5 (some (I r_1))) 6 (some (I behind))) 8 (some (.c (.ref 0 1 0 0)))) 9 (some (.c (.fn (.func 71) [] [.ref 0 1 0 0])))) 52 (some (lstV false 1 1 (ints r_2).length))) 53 (some (I ((ints r_2).length : Int)))) 54 (some (I v54))), (upd (upd (fun _ => none) 0 (some (.cells 1 [[cI n_]]))) 1 (lstB false 1 ((ints r_2).map (eK .u8)))), 2⟩ := by
  refine Sv.loop (I := csstok_Number_l0_I s_ from_ r_1 behind r_2 (csstok_Number_l0 r_2 s_ from_ r_1 behind K0_) o) (fun k s hI => ?_) ⟨n_, v54, h, rfl⟩
  clear h
  clear v54 n_
  obtain ⟨n_, v54, h, rfl⟩ := hI
  cases k with
  | zero => cases h
  | succ k =>
  rw [csstok_Number_l0] at h
  have hself : csstok_Number_l0_H s_ from_ r_1 behind r_2 (csstok_Number_l0 r_2 s_ from_ r_1 behind K0_ k) o (rnd 0 (csstok_Number_l0_I s_ from_ r_1 behind r_2 (csstok_Number_l0 r_2 s_ from_ r_1 behind K0_) o) k Q) := fun n_ v54 h s hw => ⟨_, k, hw, Nat.lt_succ_self k, n_, v54, h, rfl⟩
  refine Sv.seq ?_
  refine Sv.region ?_
  refine un (a1 (v := (B (decide (v54 < ((ints r_2).length : Int))))) rfl ?_)
  refine dnil ?_
  refine Sv.seq ?_
  refine Sv.cond (b := decide (v54 < ((ints r_2).length : Int))) rfl (fun hc2 => ?_) (fun hc2 => ?_)
  · replace h := ifT hc2 h
    refine Sv.skip ?_
    refine Sv.seq ?_
    refine Sv.block ?_
    refine Sv.seq ?_
    refine Sv.region ?_
    obtain ⟨x_, hx3, h⟩ := bnd h
    refine un (a1 (v := (.c (.ref 1 1 v54.toNat 0))) (s_iaddrL rfl rfl (fun h => by cases h) hx3) ?_)
    refine un (a1 (v := (.c (.val (.int .u8 x_)))) (s_loadL (z := false) (e := (eK .u8)) rfl rfl (fun h => by cases h) hx3 rfl rfl) ?_)
    refine un (a1 rfl ?_)
    refine dnil ?_
    refine Sv.region ?_
    refine un (a1 rfl ?_)
    refine un (a1 rfl ?_)
    obtain ⟨r_3, hr2, h⟩ := bnd h
    refine un (acv_gen (bs := [0]) («as» := [(.c (.val (.int .u8 x_))), (.c (.ref 0 1 0 0))]) (h2 := _) (h1 := (upd (fun _ => none) 0 (some (.cells 1 [[cI n_]])))) rfl (by kernel_rfl) (csstok_Number_fn1_ok hr2) rfl (.cons (avAs_free rfl) (.cons (.c (.ref rfl (by decide))) .nil)) (hsub_refl _) (.cons rfl (.nil _)) (fun h => by cases h) (by decide) (by decide) (.cons (avAs_free rfl) (.cons (.c (.ref rfl (by decide))) .nil)) (.box (by decide) rfl (blkAs_cells (.cons (.same rfl) .nil)) .nil) ?_)
    rintro _ _ _ hn ⟨rfl, rfl, rfl⟩
    refine ⟨.inl rfl, (upd (rem [0] _) 0 (some (.cells 1 [[cI r_3]]))), fun hbd => (m3_cons (m3_box rfl rfl) (m3_rem (in_cons (by decide) (in_nil _)) (.cons (by decide) .nil) hbd)), (.tup []), 2, rfl, rfl, ?_⟩
    refine dnil ?_
    refine Sv.region ?_
    refine un (a1 (v := (I (wi (v54 + 1)))) rfl ?_)
    refine un (a1 rfl ?_)
    refine dnil ?_
    exact hself r_3 (wi (v54 + 1)) h _ (weak_canon [0, 1] rfl (by decide) (by decide) (fun b h => absurd h (Nat.not_lt_zero _)) (.cons rfl (avAs_free rfl) (.cons rfl (avAs_free rfl) (.cons rfl (.c (lstC_ren rfl (by decide))) (.cons rfl (.c (fn_as .nil (.cons (.ref rfl (by decide)) .nil))) (.cons rfl (.c (.ref rfl (by decide))) (.cons rfl (avAs_free rfl) (.cons rfl (avAs_free rfl) (.cons rfl (avAs_free rfl) (.cons rfl (avAs_free rfl) .nil))))))))) (.row (by decide) rfl (fr_map fun _ => rfl) (.box (by decide) rfl (blkAs_cells (.cons (.same rfl) .nil)) .nil)))
  · replace h := ifF hc2 h
    refine Sv.exit ?_
    exact hK0 n_ h _ (weak_canon [0] rfl (by decide) (by decide) (fun b h => absurd h (Nat.not_lt_zero _)) (.cons rfl (.c (fn_as .nil (.cons (.ref rfl (by decide)) .nil))) (.cons rfl (.c (.ref rfl (by decide))) (.cons rfl (avAs_free rfl) (.cons rfl (avAs_free rfl) (.cons rfl (avAs_free rfl) (.cons rfl (avAs_free rfl) .nil)))))) (.box (by decide) rfl (blkAs_cells (.cons (.same rfl) .nil)) .nil))
abbrev csstok_Number_l1_H (s_ : (List UInt8)) (end_ : Int) (frac : (List UInt8)) (F_ : Int → Int → Option (Int × Int)) (o : (Int × Int)) (R_ : St → Prop) : Prop := ∀ (n_2 : Int) (v79 : Int), F_ n_2 v79 = some o → ∀ s, Weak 0 s ⟨(upd (upd (upd (upd (upd (upd (fun _ => none) 0 (some (S s_))) 8 (some (.c (.ref 0 1 0 0)))) 9 (some (.c (.fn (.func 71) [] [.ref 0 1 0 0])))) 12 (some (I end_))) 13 (some (S frac))) 79 (some (I v79))), (upd (fun _ => none) 0 (some (.cells 1 [[cI n_2]]))), 1⟩ → R_ s
abbrev csstok_Number_l1_E2 (s_ : (List UInt8)) (end_ : Int) (F_ : Int → Option (Int × Int)) (o : (Int × Int)) (R_ : St → Prop) : Prop := ∀ (n_3 : Int), F_ n_3 = some o → ∀ s, Weak 0 s ⟨(upd (upd (upd (fun _ => none) 0 (some (S s_))) 8 (some (.c (.ref 0 1 0 0)))) 12 (some (I end_))), (upd (fun _ => none) 0 (some (.cells 1 [[cI n_3]]))), 1⟩ → R_ s
noncomputable def csstok_Number_j8 (v79 : Int) (s_ : (List UInt8)) (end_ : Int) (frac : (List UInt8)) (self : Int → Int → Option (Int × Int)) (K2_ : Int → Option (Int × Int)) (n_4 : Int) : Option (Int × Int) :=
  self n_4 (wi (v79 + 1))
theorem csstok_Number_j8_ok {mL : Int} {Q : AExit → St → Prop} {v79 : Int} {s_ : (List UInt8)} {end_ : Int} {frac : (List UInt8)} {self : Int → Int → Option (Int × Int)} {K2_ : Int → Option (Int × Int)} {n_4 : Int} {o : (Int × Int)} (h : csstok_Number_j8 v79 s_ end_ frac self K2_ n_4 = some o)
    (hself : csstok_Number_l1_H s_ end_ frac self o (Q .normal))
    (hK2 : csstok_Number_l1_E2 s_ end_ K2_ o (Q (.exit 2)))
    (hr : ∀ s, Ends a50.results 0 (csstok_Number_post o) .ret s → Q .ret s) :
    Sv Tryd.prog (GG mL) 0 a50_c5 Q ⟨(upd (upd (upd (upd (upd (upd (fun _ => none) 0 (some (S s_))) 8 (some (.c (.ref 0 1 0 0)))) 9 (some (.c (.fn (.func 71) [] [.ref 0 1 0 0])))) 12 (some (I end_))) 13 (some (S frac))) 79 (some (I v79))), (upd (fun _ => none) 0 (some (.cells 1 [[cI n_4]]))), 1⟩ := by
  unfold csstok_Number_j8 at h
  refine Sv.region ?_
  refine un (a1 (v := (I (wi (v79 + 1)))) rfl ?_)
  refine un (a1 rfl ?_)
  refine dnil ?_
  exact hself n_4 (wi (v79 + 1)) h _ (weak_canon [0] rfl (by decide) (by decide) (fun b h => absurd h (Nat.not_lt_zero _)) (.cons rfl (avAs_free rfl) (.cons rfl (avAs_free rfl) (.cons rfl (avAs_free rfl) (.cons rfl (.c (fn_as .nil (.cons (.ref rfl (by decide)) .nil))) (.cons rfl (.c (.ref rfl (by decide))) (.cons rfl (avAs_free rfl) .nil)))))) (.box (by decide) rfl (blkAs_cells (.cons (.same rfl) .nil)) .nil))
abbrev csstok_Number_l1_I (s_ : (List UInt8)) (end_ : Int) (frac : (List UInt8)) (F_ : Nat → Int → Int → Option (Int × Int)) (o : (Int × Int)) : Nat → St → Prop := fun k s => ∃ (n_2 : Int), ∃ (v79 : Int), F_ k n_2 v79 = some o ∧ s = ⟨(upd (upd (upd (upd (upd (upd (fun _ => none) 0 (some (S s_))) 8 (some (.c (.ref 0 1 0 0)))) 9 (some (.c (.fn (.func 71) [] [.ref 0 1 0 0])))) 12 (some (I end_))) 13 (some (S frac))) 79 (some (I v79))), (upd (fun _ => none) 0 (some (.cells 1 [[cI n_2]]))), 1⟩
noncomputable def csstok_Number_l1 (frac : (List UInt8)) (s_ : (List UInt8)) (end_ : Int) (K2_ : Int → Option (Int × Int)) : Nat → Int → Int → Option (Int × Int)
  | 0, _, _ => none
  | k + 1, n_2, v79 =>
    if decide (v79 < 3) then
      if decide (v79 < (frac.length : Int)) then
        (at? frac v79).bind fun c_ =>
        (csstok_Number_fn1 (c_.toNat : Int) n_2).bind fun r_4 =>
        csstok_Number_j8 v79 s_ end_ frac (csstok_Number_l1 frac s_ end_ K2_ k) K2_ r_4
      else
        (csstok_Number_fn1 48 n_2).bind fun r_5 =>
        csstok_Number_j8 v79 s_ end_ frac (csstok_Number_l1 frac s_ end_ K2_ k) K2_ r_5
    else
      K2_ n_2
theorem csstok_Number_l1_ok {mL : Int} {Q : AExit → St → Prop} {frac : (List UInt8)} {s_ : (List UInt8)} {end_ : Int} {K2_ : Int → Option (Int × Int)} {k : Nat} {n_2 : Int} {v79 : Int} {o : (Int × Int)} (h : csstok_Number_l1 frac s_ end_ K2_ k n_2 v79 = some o)
    (hK2 : csstok_Number_l1_E2 s_ end_ K2_ o (Q (.exit 2)))
    (hr : ∀ s, Ends a50.results 0 (csstok_Number_post o) .ret s → Q .ret s) :
    Sv Tryd.prog (GG mL) 0 (.loop a50_c6) Q ⟨(upd (upd (upd (upd (upd (upd (fun _ => none) 0 (some (S s_))) 8 (some (.c (.ref 0 1 0 0)))) 9 (some (.c (.fn (.func 71) [] [.ref 0 1 0 0])))) 12 (some (I end_))) 13 (some (S frac))) 79 (some (I v79))), (upd (fun _ => none) 0 (some (.cells 1 [[cI n_2]]))), 1⟩ := by
  refine Sv.loop (I := csstok_Number_l1_I s_ end_ frac (csstok_Number_l1 frac s_ end_ K2_) o) (fun k s hI => ?_) ⟨n_2, v79, h, rfl⟩
  clear h
  clear v79 n_2
  obtain ⟨n_2, v79, h, rfl⟩ := hI
  cases k with
  | zero => cases h
  | succ k =>
  rw [csstok_Number_l1] at h
  have hself : csstok_Number_l1_H s_ end_ frac (csstok_Number_l1 frac s_ end_ K2_ k) o (rnd 0 (csstok_Number_l1_I s_ end_ frac (csstok_Number_l1 frac s_ end_ K2_) o) k Q) := fun n_2 v79 h s hw => ⟨_, k, hw, Nat.lt_succ_self k, n_2, v79, h, rfl⟩
  refine Sv.seq ?_
  refine Sv.region ?_
  refine un (a1 (v := (B (decide (v79 < 3)))) rfl ?_)
  refine dnil ?_
  refine Sv.seq ?_
  refine Sv.cond (b := decide (v79 < 3)) rfl (fun hc3 => ?_) (fun hc3 => ?_)
  · replace h := ifT hc3 h
    refine Sv.skip ?_
    refine Sv.seq ?_
    refine Sv.block ?_
    refine Sv.seq ?_
    refine Sv.region ?_
    refine un (a1 rfl ?_)
    refine un (a1 rfl ?_)
    refine dnil ?_
    refine Sv.seq ?_
    refine Sv.region ?_
    refine un (a1 rfl ?_)
    refine un (a1 rfl ?_)
    refine un (a1 (v := (I (frac.length : Int))) rfl ?_)
    refine un (a1 (v := (B (decide (v79 < (frac.length : Int))))) rfl ?_)
    refine dnil ?_
    refine Sv.cond (b := decide (v79 < (frac.length : Int))) rfl (fun hc4 => ?_) (fun hc4 => ?_)
    · replace h := ifT hc4 h
      refine Sv.region ?_
      refine un (a1 rfl ?_)
      refine un (a1 rfl ?_)
      refine un (a1 rfl ?_)
      obtain ⟨c_, hx4, h⟩ := bnd h
      refine un (a1 (v := (.c (.val (.int .u8 (c_.toNat : Int))))) (s_idxS rfl rfl hx4) ?_)
      obtain ⟨r_4, hr3, h⟩ := bnd h
      refine un (acv_gen (bs := [0]) («as» := [(.c (.val (.int .u8 (c_.toNat : Int)))), (.c (.ref 0 1 0 0))]) (h2 := _) (h1 := (upd (fun _ => none) 0 (some (.cells 1 [[cI n_2]])))) rfl (by kernel_rfl) (csstok_Number_fn1_ok hr3) rfl (.cons (avAs_free rfl) (.cons (.c (.ref rfl (by decide))) .nil)) (hsub_refl _) (.cons rfl (.nil _)) (fun h => by cases h) (by decide) (by decide) (.cons (avAs_free rfl) (.cons (.c (.ref rfl (by decide))) .nil)) (.box (by decide) rfl (blkAs_cells (.cons (.same rfl) .nil)) .nil) ?_)
      rintro _ _ _ hn ⟨rfl, rfl, rfl⟩
      refine ⟨.inl rfl, (upd (rem [0] _) 0 (some (.cells 1 [[cI r_4]]))), fun hbd => (m3_cons (m3_box rfl rfl) (m3_rem (in_cons (by decide) (in_nil _)) (.cons (by decide) .nil) hbd)), (.tup []), 1, rfl, rfl, ?_⟩
      refine dnil ?_
      exact Sv.weak (weak_canon [0] rfl (by decide) (by decide) (fun b h => absurd h (Nat.not_lt_zero _)) (.cons rfl (avAs_free rfl) (.cons rfl (avAs_free rfl) (.cons rfl (avAs_free rfl) (.cons rfl (.c (fn_as .nil (.cons (.ref rfl (by decide)) .nil))) (.cons rfl (.c (.ref rfl (by decide))) (.cons rfl (avAs_free rfl) .nil)))))) (.box (by decide) rfl (blkAs_cells (.cons (.same rfl) .nil)) .nil)) (csstok_Number_j8_ok h hself hK2 hr)
    · replace h := ifF hc4 h
      refine Sv.region ?_
      refine un (a1 rfl ?_)
      obtain ⟨r_5, hr4, h⟩ := bnd h
      refine un (acv_gen (bs := [0]) («as» := [(.c (.val (.int .u8 48))), (.c (.ref 0 1 0 0))]) (h2 := _) (h1 := (upd (fun _ => none) 0 (some (.cells 1 [[cI n_2]])))) rfl (by kernel_rfl) (csstok_Number_fn1_ok hr4) rfl (.cons (avAs_free rfl) (.cons (.c (.ref rfl (by decide))) .nil)) (hsub_refl _) (.cons rfl (.nil _)) (fun h => by cases h) (by decide) (by decide) (.cons (avAs_free rfl) (.cons (.c (.ref rfl (by decide))) .nil)) (.box (by decide) rfl (blkAs_cells (.cons (.same rfl) .nil)) .nil) ?_)
      rintro _ _ _ hn ⟨rfl, rfl, rfl⟩
      refine ⟨.inl rfl, (upd (rem [0] _) 0 (some (.cells 1 [[cI r_5]]))), fun hbd => (m3_cons (m3_box rfl rfl) (m3_rem (in_cons (by decide) (in_nil _)) (.cons (by decide) .nil) hbd)), (.tup []), 1, rfl, rfl, ?_⟩
      refine dnil ?_
      exact Sv.weak (weak_canon [0] rfl (by decide) (by decide) (fun b h => absurd h (Nat.not_lt_zero _)) (.cons rfl (avAs_free rfl) (.cons rfl (avAs_free rfl) (.cons rfl (avAs_free rfl) (.cons rfl (.c (fn_as .nil (.cons (.ref rfl (by decide)) .nil))) (.cons rfl (.c (.ref rfl (by decide))) (.cons rfl (avAs_free rfl) .nil)))))) (.box (by decide) rfl (blkAs_cells (.cons (.same rfl) .nil)) .nil)) (csstok_Number_j8_ok h hself hK2 hr)
  · replace h := ifF hc3 h
    refine Sv.exit ?_
    exact hK2 n_2 h _ (weak_canon [0] rfl (by decide) (by decide) (fun b h => absurd h (Nat.not_lt_zero _)) (.cons rfl (avAs_free rfl) (.cons rfl (.c (.ref rfl (by decide))) (.cons rfl (avAs_free rfl) .nil))) (.box (by decide) rfl (blkAs_cells (.cons (.same rfl) .nil)) .nil))
noncomputable def csstok_Number_j9 (end_ : Int) (n_5 : Int) : Option (Int × Int) :=
  some (n_5, end_)
theorem csstok_Number_j9_ok {mL : Int} {end_ : Int} {n_5 : Int} {o : (Int × Int)} (h : csstok_Number_j9 end_ n_5 = some o) :
    Sv Tryd.prog (GG mL) 0 a50_c7 (Ends a50.results 0 (csstok_Number_post o)) ⟨(upd (upd (fun _ => none) 8 (some (.c (.ref 0 1 0 0)))) 12 (some (I end_))), (upd (fun _ => none) 0 (some (.cells 1 [[cI n_5]]))), 1⟩ := by
  unfold csstok_Number_j9 at h
  refine Sv.seq ?_
  refine Sv.region ?_
  refine un (a1 (v := (I n_5)) rfl ?_)
  refine un (a1 rfl ?_)
  refine un (a1 rfl ?_)
  refine un (a1 rfl ?_)
  refine dnil ?_
  refine Sv.ret ?_
  replace h := Option.some.inj h
  subst h
  exact ⟨_, .refl _, _, rfl, ⟨upd (fun _ => none) 0 (some (.tup [(I n_5), (I end_)])), (fun _ => none), 0⟩, (.tup [(I n_5), (I end_)]), weak_canon [] rfl List.nodup_nil (Nat.le_refl _) (fun b h => absurd h (Nat.not_lt_zero _)) (.cons rfl (avAs_tup (.cons (avAs_free rfl) (.cons (avAs_free rfl) .nil))) .nil) .nil, rfl, rfl, rfl, rfl⟩
noncomputable def csstok_Number_j5 (s_ : (List UInt8)) (n_1 : Int) (end_ : Int) (frac : (List UInt8)) : Option (Int × Int) :=
  limF fun kk => csstok_Number_l1 frac s_ end_ (fun (n_3 : Int) => 
      (at? s_ 0).bind fun c_1 =>
      if decide ((c_1.toNat : Int) = 45) then
        csstok_Number_j9 end_ (wi (0 - n_3))
      else
        csstok_Number_j9 end_ n_3) kk n_1 0
theorem csstok_Number_j5_ok {mL : Int} {s_ : (List UInt8)} {n_1 : Int} {end_ : Int} {frac : (List UInt8)} {o : (Int × Int)} (h : csstok_Number_j5 s_ n_1 end_ frac = some o) :
    Sv Tryd.prog (GG mL) 0 a50_c4 (Ends a50.results 0 (csstok_Number_post o)) ⟨(upd (upd (upd (upd (upd (fun _ => none) 0 (some (S s_))) 8 (some (.c (.ref 0 1 0 0)))) 9 (some (.c (.fn (.func 71) [] [.ref 0 1 0 0])))) 12 (some (I end_))) 13 (some (S frac))), (upd (fun _ => none) 0 (some (.cells 1 [[cI n_1]]))), 1⟩ := by
  unfold csstok_Number_j5 at h
  refine Sv.seq ?_
  refine Sv.seq ?_
  refine Sv.region ?_
  refine un (a1 rfl ?_)
  refine dnil ?_
  refine Sv.block ?_
  obtain ⟨kk, h⟩ := limF_some h
  refine Sv.weak (weak_canon [0] rfl (by decide) (by decide) (fun b h => absurd h (Nat.not_lt_zero _)) (.cons rfl (avAs_free rfl) (.cons rfl (avAs_free rfl) (.cons rfl (avAs_free rfl) (.cons rfl (.c (fn_as .nil (.cons (.ref rfl (by decide)) .nil))) (.cons rfl (.c (.ref rfl (by decide))) (.cons rfl (avAs_free rfl) .nil)))))) (.box (by decide) rfl (blkAs_cells (.cons (.same rfl) .nil)) .nil)) (csstok_Number_l1_ok h ?_ (fun s hs => hs))
  · intro n_3 h _ hw2
    refine Sv.weak hw2 ?_
    refine Sv.seq ?_
    refine Sv.seq ?_
    refine Sv.region ?_
    refine un (a1 rfl ?_)
    obtain ⟨c_1, hx5, h⟩ := bnd h
    refine un (a1 (v := (.c (.val (.int .u8 (c_1.toNat : Int))))) (s_idxS rfl rfl hx5) ?_)
    refine un (a1 (v := (B (decide ((c_1.toNat : Int) = 45)))) rfl ?_)
    refine dnil ?_
    refine Sv.cond (b := decide ((c_1.toNat : Int) = 45)) rfl (fun hc5 => ?_) (fun hc5 => ?_)
    · replace h := ifT hc5 h
      refine Sv.region ?_
      refine un (a1 (v := (I n_3)) rfl ?_)
      refine un (a1 (v := (I (wi (0 - n_3)))) rfl ?_)
      refine un (a2n (h' := upd _ 0 (some (.cells 1 [[cI (wi (0 - n_3))]]))) (n' := 1) rfl rfl (fun h => by cases h) ?_)
      refine dnil ?_
      exact Sv.weak (weak_canon [0] rfl (by decide) (by decide) (fun b h => absurd h (Nat.not_lt_zero _)) (.cons rfl (avAs_free rfl) (.cons rfl (.c (.ref rfl (by decide))) .nil)) (.box (by decide) rfl (blkAs_cells (.cons (.same rfl) .nil)) .nil)) (csstok_Number_j9_ok h)
    · replace h := ifF hc5 h
      refine Sv.skip ?_
      exact Sv.weak (weak_canon [0] rfl (by decide) (by decide) (fun b h => absurd h (Nat.not_lt_zero _)) (.cons rfl (avAs_free rfl) (.cons rfl (.c (.ref rfl (by decide))) .nil)) (.box (by decide) rfl (blkAs_cells (.cons (.same rfl) .nil)) .nil)) (csstok_Number_j9_ok h)
noncomputable def csstok_Number_j4 (r_1 : Int) (s_ : (List UInt8)) (from_ : Int) (behind : Int) : Option (Int × Int) :=
  if decide ((wi (r_1 + behind)) = 0) then
    some (0, 0)
  else
    (sub? s_ from_ (wi (from_ + r_1))).bind fun r_2 =>
    limF fun kk1 => csstok_Number_l0 r_2 s_ from_ r_1 behind (fun (n_1 : Int) => 
        if decide (0 < behind) then
          (sub? s_ (wi ((wi (from_ + r_1)) + 1)) (wi ((wi ((wi (from_ + r_1)) + 1)) + behind))).bind fun r_6 =>
          csstok_Number_j5 s_ n_1 (wi ((wi (from_ + r_1)) + (wi (1 + behind)))) r_6
        else
          csstok_Number_j5 s_ n_1 (wi (from_ + r_1)) []) kk1 0 0
theorem csstok_Number_j4_ok {mL : Int} {r_1 : Int} {s_ : (List UInt8)} {from_ : Int} {behind : Int} {o : (Int × Int)} (h : csstok_Number_j4 r_1 s_ from_ behind = some o) :
    Sv Tryd.prog (GG mL) 0 a50_c2 (Ends a50.results 0 (csstok_Number_post o)) ⟨(upd (upd (upd (upd (fun _ => none) 0 (some (S s_))) 4 (some (I from_))) 5 (some (I r_1))) 6 (some (I behind))), (fun _ => none), 0⟩ := by
  unfold csstok_Number_j4 at h
  refine Sv.seq ?_
  refine Sv.seq ?_
  refine Sv.region ?_
  refine un (a1 rfl ?_)
  refine un (a1 rfl ?_)
  refine un (a1 (v := (I (wi (r_1 + behind)))) rfl ?_)
  refine un (a1 (v := (B (decide ((wi (r_1 + behind)) = 0)))) rfl ?_)
  refine dnil ?_
  refine Sv.cond (b := decide ((wi (r_1 + behind)) = 0)) rfl (fun hc1 => ?_) (fun hc1 => ?_)
  · replace h := ifT hc1 h
    refine Sv.seq ?_
    refine Sv.region ?_
    refine un (a1 rfl ?_)
    refine un (a1 rfl ?_)
    refine dnil ?_
    refine Sv.ret ?_
    replace h := Option.some.inj h
    subst h
    exact ⟨_, .refl _, _, rfl, ⟨upd (fun _ => none) 0 (some (.tup [(I 0), (I 0)])), (fun _ => none), 0⟩, (.tup [(I 0), (I 0)]), weak_canon [] rfl List.nodup_nil (Nat.le_refl _) (fun b h => absurd h (Nat.not_lt_zero _)) (.cons rfl (avAs_tup (.cons (avAs_free rfl) (.cons (avAs_free rfl) .nil))) .nil) .nil, rfl, rfl, rfl, rfl⟩
  · replace h := ifF hc1 h
    refine Sv.skip ?_
    refine Sv.seq ?_
    refine Sv.region ?_
    refine un (a2v (v := (.c (.ref 0 1 0 0))) (h' := upd _ 0 (some (.cells 1 [[cI 0]]))) (n' := 1) rfl rfl (fun h => by cases h) ?_)
    refine un (a2n (h' := upd _ 0 (some (.cells 1 [[cI 0]]))) (n' := 1) rfl rfl (fun h => by cases h) ?_)
    refine dnil ?_
    refine Sv.seq ?_
    refine Sv.region ?_
    refine un (a1 (v := (.c (.fn (.func 71) [] [.ref 0 1 0 0]))) rfl ?_)
    refine un (a1 rfl ?_)
    refine dnil ?_
    refine Sv.seq ?_
    refine Sv.seq ?_
    refine Sv.region ?_
    refine un (a1 rfl ?_)
    refine un (a1 rfl ?_)
    refine un (a1 rfl ?_)
    refine un (a1 rfl ?_)
    refine un (a1 (v := (I (wi (from_ + r_1)))) rfl ?_)
    obtain ⟨r_2, hx2, h⟩ := bnd h
    refine un (a1 (v := (S r_2)) (s_slStr rfl rfl rfl hx2) ?_)
    refine un (a2v (v := (lstV false 1 1 (ints r_2).length)) (h' := upd _ 1 (lstB false 1 ((ints r_2).map (eK .u8)))) (n' := 2) rfl (s_toBytes rfl) (fun h => by cases h) ?_)
    refine un (a1 (v := (I ((ints r_2).length : Int))) (s_lenL rfl (len_nil_of (fun h => by cases h))) ?_)
    refine un (a1 rfl ?_)
    refine dnil ?_
    refine Sv.block ?_
    obtain ⟨kk1, h⟩ := limF_some h
    refine Sv.weak (weak_canon [0, 1] rfl (by decide) (by decide) (fun b h => absurd h (Nat.not_lt_zero _)) (.cons rfl (avAs_free rfl) (.cons rfl (avAs_free rfl) (.cons rfl (.c (lstC_ren rfl (by decide))) (.cons rfl (.c (fn_as .nil (.cons (.ref rfl (by decide)) .nil))) (.cons rfl (.c (.ref rfl (by decide))) (.cons rfl (avAs_free rfl) (.cons rfl (avAs_free rfl) (.cons rfl (avAs_free rfl) (.cons rfl (avAs_free rfl) .nil))))))))) (.row (by decide) rfl (fr_map fun _ => rfl) (.box (by decide) rfl (blkAs_cells (.cons (.same rfl) .nil)) .nil))) (csstok_Number_l0_ok h ?_ (fun s hs => hs))
    · intro n_1 h _ hw1
      refine Sv.weak hw1 ?_
      refine Sv.seq ?_
      refine Sv.region ?_
      refine un (a1 rfl ?_)
      refine un (a1 rfl ?_)
      refine un (a1 (v := (I (wi (from_ + r_1)))) rfl ?_)
      refine un (a1 rfl ?_)
      refine dnil ?_
      refine Sv.seq ?_
      refine Sv.region ?_
      refine un (a1 rfl ?_)
      refine dnil ?_
      refine Sv.seq ?_
      refine Sv.seq ?_
      refine Sv.region ?_
      refine un (a1 rfl ?_)
      refine un (a1 (v := (B (decide (0 < behind)))) rfl ?_)
      refine dnil ?_
      refine Sv.cond (b := decide (0 < behind)) rfl (fun hc6 => ?_) (fun hc6 => ?_)
      · replace h := ifT hc6 h
        refine Sv.seq ?_
        refine Sv.region ?_
        refine un (a1 rfl ?_)
        refine un (a1 rfl ?_)
        refine un (a1 (v := (I (wi ((wi (from_ + r_1)) + 1)))) rfl ?_)
        refine un (a1 rfl ?_)
        refine un (a1 (v := (I (wi ((wi (from_ + r_1)) + 1)))) rfl ?_)
        refine un (a1 rfl ?_)
        refine un (a1 (v := (I (wi ((wi ((wi (from_ + r_1)) + 1)) + behind)))) rfl ?_)
        obtain ⟨r_6, hx6, h⟩ := bnd h
        refine un (a1 (v := (S r_6)) (s_slStr rfl rfl rfl hx6) ?_)
        refine un (a1 rfl ?_)
        refine dnil ?_
        refine Sv.region ?_
        refine un (a1 rfl ?_)
        refine un (a1 rfl ?_)
        refine un (a1 (v := (I (wi (1 + behind)))) rfl ?_)
        refine un (a1 (v := (I (wi ((wi (from_ + r_1)) + (wi (1 + behind)))))) rfl ?_)
        refine un (a1 rfl ?_)
        refine dnil ?_
        exact Sv.weak (weak_canon [0] rfl (by decide) (by decide) (fun b h => absurd h (Nat.not_lt_zero _)) (.cons rfl (avAs_free rfl) (.cons rfl (avAs_free rfl) (.cons rfl (.c (fn_as .nil (.cons (.ref rfl (by decide)) .nil))) (.cons rfl (.c (.ref rfl (by decide))) (.cons rfl (avAs_free rfl) .nil))))) (.box (by decide) rfl (blkAs_cells (.cons (.same rfl) .nil)) .nil)) (csstok_Number_j5_ok h)
      · replace h := ifF hc6 h
        refine Sv.skip ?_
        exact Sv.weak (weak_canon [0] rfl (by decide) (by decide) (fun b h => absurd h (Nat.not_lt_zero _)) (.cons rfl (avAs_free rfl) (.cons rfl (avAs_free rfl) (.cons rfl (.c (fn_as .nil (.cons (.ref rfl (by decide)) .nil))) (.cons rfl (.c (.ref rfl (by decide))) (.cons rfl (avAs_free rfl) .nil))))) (.box (by decide) rfl (blkAs_cells (.cons (.same rfl) .nil)) .nil)) (csstok_Number_j5_ok h)
noncomputable def csstok_Number_j3 (s_ : (List UInt8)) (from_ : Int) : Option (Int × Int) :=
  (sub? s_ from_ (s_.length : Int)).bind fun r_ =>
  (csstok_digits r_).bind fun r_1 =>
  (sub? s_ (wi (from_ + r_1)) (s_.length : Int)).bind fun r_7 =>
  (strings_HasPrefix r_7 [46]).bind fun r_8 =>
  if r_8 then
    (sub? r_7 1 (r_7.length : Int)).bind fun r_9 =>
    (csstok_digits r_9).bind fun r_10 =>
    csstok_Number_j4 r_1 s_ from_ r_10
  else
    csstok_Number_j4 r_1 s_ from_ 0
theorem csstok_Number_j3_ok {mL : Int} {s_ : (List UInt8)} {from_ : Int} {o : (Int × Int)} (h : csstok_Number_j3 s_ from_ = some o) :
    Sv Tryd.prog (GG mL) 0 a50_c1 (Ends a50.results 0 (csstok_Number_post o)) ⟨(upd (upd (fun _ => none) 0 (some (S s_))) 4 (some (I from_))), (fun _ => none), 0⟩ := by
  unfold csstok_Number_j3 at h
  refine Sv.seq ?_
  refine Sv.region ?_
  refine un (a1 rfl ?_)
  refine un (a1 rfl ?_)
  obtain ⟨r_, hx1, h⟩ := bnd h
  refine un (a1 (v := (S r_)) (s_slStr rfl rfl rfl hx1) ?_)
  obtain ⟨r_1, hr1, h⟩ := bnd h
  refine un (ac_pure (csstok_digits_ok hr1) rfl rfl rfl ?_)
  refine un (a1 rfl ?_)
  refine dnil ?_
  refine Sv.seq ?_
  refine Sv.region ?_
  refine un (a1 rfl ?_)
  refine dnil ?_
  refine Sv.seq ?_
  refine Sv.seq ?_
  refine Sv.region ?_
  refine un (a1 rfl ?_)
  refine un (a1 rfl ?_)
  refine un (a1 rfl ?_)
  refine un (a1 (v := (I (wi (from_ + r_1)))) rfl ?_)
  obtain ⟨r_7, hx7, h⟩ := bnd h
  refine un (a1 (v := (S r_7)) (s_slStr rfl rfl rfl hx7) ?_)
  refine un (a1 rfl ?_)
  refine dnil ?_
  refine Sv.seq ?_
  refine Sv.region ?_
  refine un (a1 rfl ?_)
  obtain ⟨r_8, hr5, h⟩ := bnd h
  refine un (ac_pure (strings_HasPrefix_ok hr5) rfl rfl rfl ?_)
  refine dnil ?_
  refine Sv.cond (b := r_8) rfl (fun hc7 => ?_) (fun hc7 => ?_)
  · replace h := ifT hc7 h
    refine Sv.region ?_
    refine un (a1 rfl ?_)
    obtain ⟨r_9, hx8, h⟩ := bnd h
    refine un (a1 (v := (S r_9)) (s_slStr rfl rfl rfl hx8) ?_)
    obtain ⟨r_10, hr6, h⟩ := bnd h
    refine un (ac_pure (csstok_digits_ok hr6) rfl rfl rfl ?_)
    refine un (a1 rfl ?_)
    refine dnil ?_
    exact Sv.weak (weak_canon [] rfl (by decide) (by decide) (fun b h => absurd h (Nat.not_lt_zero _)) (.cons rfl (avAs_free rfl) (.cons rfl (avAs_free rfl) (.cons rfl (avAs_free rfl) (.cons rfl (avAs_free rfl) .nil)))) .nil) (csstok_Number_j4_ok h)
  · replace h := ifF hc7 h
    refine Sv.skip ?_
    exact Sv.weak (weak_canon [] rfl (by decide) (by decide) (fun b h => absurd h (Nat.not_lt_zero _)) (.cons rfl (avAs_free rfl) (.cons rfl (avAs_free rfl) (.cons rfl (avAs_free rfl) (.cons rfl (avAs_free rfl) .nil)))) .nil) (csstok_Number_j4_ok h)
abbrev csstok_Number_q0 (mL : Int) (o : (Int × Int)) : AExit → St → Prop := AThen (Sv Tryd.prog (GG mL) 0 a50_c1 (Ends a50.results 0 (csstok_Number_post o))) (Ends a50.results 0 (csstok_Number_post o))
noncomputable def csstok_Number_j10 (s_ : (List UInt8)) (v26 : Bool) : Option (Int × Int) :=
  if v26 then
    csstok_Number_j3 s_ 1
  else
    csstok_Number_j3 s_ 0
theorem csstok_Number_j10_ok {mL : Int} {s_ : (List UInt8)} {v26 : Bool} {o : (Int × Int)} (h : csstok_Number_j10 s_ v26 = some o) :
    Sv Tryd.prog (GG mL) 0 a50_c0 (csstok_Number_q0 mL o) ⟨(upd (upd (upd (fun _ => none) 0 (some (S s_))) 4 (some (I 0))) 26 (some (B v26))), (fun _ => none), 0⟩ := by
  unfold csstok_Number_j10 at h
  refine Sv.cond (b := v26) rfl (fun hc8 => ?_) (fun hc8 => ?_)
  · replace h := ifT hc8 h
    refine Sv.region ?_
    refine un (a1 rfl ?_)
    refine dnil ?_
    exact Sv.weak (weak_canon [] rfl (by decide) (by decide) (fun b h => absurd h (Nat.not_lt_zero _)) (.cons rfl (avAs_free rfl) (.cons rfl (avAs_free rfl) .nil)) .nil) (csstok_Number_j3_ok h)
  · replace h := ifF hc8 h
    refine Sv.skip ?_
    exact Sv.weak (weak_canon [] rfl (by decide) (by decide) (fun b h => absurd h (Nat.not_lt_zero _)) (.cons rfl (avAs_free rfl) (.cons rfl (avAs_free rfl) .nil)) .nil) (csstok_Number_j3_ok h)
/-- clerestory/csstok.Number -/
noncomputable def csstok_Number (s_ : (List UInt8)) : Option (Int × Int) :=
  if (!decide (s_ = [])) then
    (at? s_ 0).bind fun c_2 =>
    if decide ((c_2.toNat : Int) = 43) then
      csstok_Number_j10 s_ true
    else
      (at? s_ 0).bind fun c_3 =>
      csstok_Number_j10 s_ (decide ((c_3.toNat : Int) = 45))
  else
    csstok_Number_j10 s_ false
theorem csstok_Number_ok {mL : Int} {s_ : (List UInt8)} {r : (Int × Int)} (h : csstok_Number s_ = some r) : CPure Tryd.prog (GG mL) 50 [(S s_)] (.tup [(I r.1), (I r.2)]) := by
  refine acalls_of_sv hmix c50 (R := csstok_Number_post r) ?_
  unfold csstok_Number at h
  refine Sv.seq ?_
  refine Sv.region ?_
  refine un (a1 rfl ?_)
  refine un (a1 rfl ?_)
  refine dnil ?_
  refine Sv.seq ?_
  refine Sv.region ?_
  refine un (a1 rfl ?_)
  refine dnil ?_
  refine Sv.seq ?_
  refine Sv.seq ?_
  refine Sv.region ?_
  refine un (a1 rfl ?_)
  refine un (a1 (v := (B (!decide (s_ = [])))) rfl ?_)
  refine un (a1 rfl ?_)
  refine split2 (fun hc9 => ?_) (fun hc9 => ?_)
  · replace h := ifT hc9 h
    refine gt rfl (a1 rfl ?_)
    obtain ⟨c_2, hx9, h⟩ := bnd h
    refine gt rfl (a1 (v := (.c (.val (.int .u8 (c_2.toNat : Int))))) (s_idxS rfl rfl hx9) ?_)
    refine gt rfl (a1 (v := (B (decide ((c_2.toNat : Int) = 43)))) rfl ?_)
    refine gt rfl (a1 rfl ?_)
    refine split2 (fun hc10 => ?_) (fun hc10 => ?_)
    · replace h := ifT hc10 h
      refine gs rfl rfl ?_
      refine gs rfl rfl ?_
      refine gs rfl rfl ?_
      refine gt rfl (a1 (v := (B true)) rfl ?_)
      refine un (a1 (v := (B true)) rfl ?_)
      refine dnil ?_
      exact Sv.weak (weak_canon [] rfl (by decide) (by decide) (fun b h => absurd h (Nat.not_lt_zero _)) (.cons rfl (avAs_free rfl) (.cons rfl (avAs_free rfl) (.cons rfl (avAs_free rfl) .nil))) .nil) (csstok_Number_j10_ok h)
    · replace h := ifF hc10 h
      refine gt rfl (a1 rfl ?_)
      obtain ⟨c_3, hx10, h⟩ := bnd h
      refine gt rfl (a1 (v := (.c (.val (.int .u8 (c_3.toNat : Int))))) (s_idxS rfl rfl hx10) ?_)
      refine gt rfl (a1 (v := (B (decide ((c_3.toNat : Int) = 45)))) rfl ?_)
      refine gt rfl (a1 (v := (B (decide ((c_3.toNat : Int) = 45)))) rfl ?_)
      refine un (a1 (v := (B (decide ((c_3.toNat : Int) = 45)))) rfl ?_)
      refine dnil ?_
      exact Sv.weak (weak_canon [] rfl (by decide) (by decide) (fun b h => absurd h (Nat.not_lt_zero _)) (.cons rfl (avAs_free rfl) (.cons rfl (avAs_free rfl) (.cons rfl (avAs_free rfl) .nil))) .nil) (csstok_Number_j10_ok h)
  · replace h := ifF hc9 h
    refine gs rfl rfl ?_
    refine gs rfl rfl ?_
    refine gs rfl rfl ?_
    refine gs rfl rfl ?_
    refine gu rfl ?_
    refine gu rfl ?_
    refine gu rfl ?_
    refine gs rfl rfl ?_
    refine un (a1 (v := (B false)) rfl ?_)
    refine dnil ?_
    exact Sv.weak (weak_canon [] rfl (by decide) (by decide) (fun b h => absurd h (Nat.not_lt_zero _)) (.cons rfl (avAs_free rfl) (.cons rfl (avAs_free rfl) (.cons rfl (avAs_free rfl) .nil))) .nil) (csstok_Number_j10_ok h)
def a72_c0 : ACode := (.region [⟨(some 26), (.bin .add (.tmp 10) (.const (.c (.val (.int .i64 1))))), none⟩, ⟨(some 10), (.mov (.tmp 26)), none⟩])
def a72_c1 : ACode := (.seq (.region [⟨(some 11), (.bin .lss (.tmp 10) (.tmp 9)), none⟩])
 (.seq (.cond (.tmp 11) .skip (.exit 0))
 (.seq (.block 1 (.seq (.region [⟨(some 12), (.mov (.tmp 10)), none⟩, ⟨(some 13), (.iaddr 1 (.tmp 8) (.tmp 10)), none⟩, ⟨(some 14), (.load false 1 (.tmp 13)), none⟩, ⟨(some 4), (.mov (.tmp 12)), none⟩, ⟨(some 5), (.mov (.tmp 14)), none⟩])
 (.seq (.region [⟨(some 15), (.mov (.tmp 5)), none⟩, ⟨(some 16), (.bin .geq (.tmp 15) (.const (.c (.val (.int .u8 65))))), none⟩, ⟨(some 17), (.mov (.tmp 16)), none⟩, ⟨(some 18), (.mov (.tmp 5)), (some (17, true))⟩, ⟨(some 19), (.bin .leq (.tmp 18) (.const (.c (.val (.int .u8 90))))), (some (17, true))⟩, ⟨(some 20), (.pick (.tmp 17) (.tmp 19) (.const (.c (.val (.bool false))))), none⟩])
 (.cond (.tmp 20) (.region [⟨(some 21), (.mov (.tmp 3)), none⟩, ⟨(some 22), (.mov (.tmp 4)), none⟩, ⟨(some 23), (.mov (.tmp 5)), none⟩, ⟨(some 24), (.bin .add (.tmp 23) (.const (.c (.val (.int .u8 32))))), none⟩, ⟨(some 25), (.iaddr 1 (.tmp 21) (.tmp 22)), none⟩, ⟨none, (.store 1 (.tmp 25) (.tmp 24)), none⟩]) .skip))))
 a72_c0)))
def a72 : AFunc := ⟨1, [(.tmp 2)], (.seq (.region [⟨(some 2), (.mov (.const (.c (.str [])))), none⟩])
 (.seq (.region [⟨(some 6), (.mov (.tmp 0)), none⟩, ⟨(some 7), (.toBytes (.tmp 6)), none⟩, ⟨(some 3), (.mov (.tmp 7)), none⟩])
 (.seq (.seq (.region [⟨(some 8), (.mov (.tmp 3)), none⟩, ⟨(some 9), (.len (.tmp 8)), none⟩, ⟨(some 10), (.mov (.const (.c (.val (.int .i64 0))))), none⟩])
 (.block 0 (.loop a72_c1)))
 (.seq (.region [⟨(some 27), (.mov (.tmp 3)), none⟩, ⟨(some 28), (.ofBytes (.tmp 27)), none⟩, ⟨(some 2), (.mov (.tmp 28)), none⟩])
 .ret))))⟩
set_option maxRecDepth 100000 in
theorem c72 : compFunc Tryd.prog 72 = some a72 := by kernel_rfl
def csstok_lower_post (r : (List UInt8)) : AV → Heap → Nat → Prop := fun v h' n' => v = (S r) ∧ (h' = (fun _ => none)) ∧ n' = 0
abbrev csstok_lower_l0_H (F_ : (List Int) → Int → Int → Option (List UInt8)) (o : (List UInt8)) (R_ : St → Prop) : Prop := ∀ (b_ : (List Int)) (v9 : Int) (v10 : Int) (zb : Bool) (_ : zb = true → b_ = []), F_ b_ v9 v10 = some o → ∀ s, Weak 0 s ⟨(upd (upd (upd (upd (fun _ => none) 3 (some (lstV zb 0 1 b_.length))) 8 (some (lstV zb 0 1 b_.length))) 9 (some (I v9))) 10 (some (I v10))), (upd (fun _ => none) 0 (lstB zb 1 (b_.map (eK .u8)))), 1⟩ → R_ s
abbrev csstok_lower_l0_E0 (F_ : (List Int) → Option (List UInt8)) (o : (List UInt8)) (R_ : St → Prop) : Prop := ∀ (b_1 : (List Int)) (zb_1 : Bool) (_ : zb_1 = true → b_1 = []), F_ b_1 = some o → ∀ s, Weak 0 s ⟨(upd (fun _ => none) 3 (some (lstV zb_1 0 1 b_1.length))), (upd (fun _ => none) 0 (lstB zb_1 1 (b_1.map (eK .u8)))), 1⟩ → R_ s
noncomputable def csstok_lower_j3 (v9 : Int) (v10 : Int) (self : (List Int) → Int → Int → Option (List UInt8)) (K0_ : (List Int) → Option (List UInt8)) (b_2 : (List Int)) : Option (List UInt8) :=
  self b_2 v9 (wi (v10 + 1))
theorem csstok_lower_j3_ok {mL : Int} {Q : AExit → St → Prop} {v9 : Int} {v10 : Int} {self : (List Int) → Int → Int → Option (List UInt8)} {K0_ : (List Int) → Option (List UInt8)} {b_2 : (List Int)} {zb_2 : Bool} (hzb_2 : zb_2 = true → b_2 = []) {o : (List UInt8)} (h : csstok_lower_j3 v9 v10 self K0_ b_2 = some o)
    (hself : csstok_lower_l0_H self o (Q .normal))
    (hK0 : csstok_lower_l0_E0 K0_ o (Q (.exit 0)))
    (hr : ∀ s, Ends a72.results 0 (csstok_lower_post o) .ret s → Q .ret s) :
    Sv Tryd.prog (GG mL) 0 a72_c0 Q ⟨(upd (upd (upd (upd (fun _ => none) 3 (some (lstV zb_2 0 1 b_2.length))) 8 (some (lstV zb_2 0 1 b_2.length))) 9 (some (I v9))) 10 (some (I v10))), (upd (fun _ => none) 0 (lstB zb_2 1 (b_2.map (eK .u8)))), 1⟩ := by
  unfold csstok_lower_j3 at h
  refine Sv.region ?_
  refine un (a1 (v := (I (wi (v10 + 1)))) rfl ?_)
  refine un (a1 rfl ?_)
  refine dnil ?_
  exact hself b_2 v9 (wi (v10 + 1)) zb_2 hzb_2 h _ (weak_canon [0] rfl (by decide) (by decide) (fun b h => absurd h (Nat.not_lt_zero _)) (.cons rfl (avAs_free rfl) (.cons rfl (avAs_free rfl) (.cons rfl (.c (lstC_ren rfl (by decide))) (.cons rfl (.c (lstC_ren rfl (by decide))) .nil)))) (.row (by decide) rfl (fr_map fun _ => rfl) .nil))
abbrev csstok_lower_l0_I (F_ : Nat → (List Int) → Int → Int → Option (List UInt8)) (o : (List UInt8)) : Nat → St → Prop := fun k s => ∃ (b_ : (List Int)), ∃ (v9 : Int), ∃ (v10 : Int), ∃ (zb : Bool), (zb = true → b_ = []) ∧ F_ k b_ v9 v10 = some o ∧ s = ⟨(upd (upd (upd (upd (fun _ => none) 3 (some (lstV zb 0 1 b_.length))) 8 (some (lstV zb 0 1 b_.length))) 9 (some (I v9))) 10 (some (I v10))), (upd (fun _ => none) 0 (lstB zb 1 (b_.map (eK .u8)))), 1⟩
noncomputable def csstok_lower_l0 (K0_ : (List Int) → Option (List UInt8)) : Nat → (List Int) → Int → Int → Option (List UInt8)
  | 0, _, _, _ => none
  | k + 1, b_, v9, v10 =>
    if decide (v10 < v9) then
      (at? b_ v10).bind fun x_ =>
      if ((decide (65 ≤ x_)) && (decide (x_ ≤ 90))) then
        (at? b_ v10).bind fun x_1 =>
        csstok_lower_j3 v9 v10 (csstok_lower_l0 K0_ k) K0_ (b_.set v10.toNat (wr .u8 (x_ + 32)))
      else
        csstok_lower_j3 v9 v10 (csstok_lower_l0 K0_ k) K0_ b_
    else
      K0_ b_
theorem csstok_lower_l0_ok {mL : Int} {Q : AExit → St → Prop} {K0_ : (List Int) → Option (List UInt8)} {k : Nat} {b_ : (List Int)} {v9 : Int} {v10 : Int} {zb : Bool} (hzb : zb = true → b_ = []) {o : (List UInt8)} (h : csstok_lower_l0 K0_ k b_ v9 v10 = some o)
    (hK0 : csstok_lower_l0_E0 K0_ o (Q (.exit 0)))
    (hr : ∀ s, Ends a72.results 0 (csstok_lower_post o) .ret s → Q .ret s) :
    Sv Tryd.prog (GG mL) 0 (.loop a72_c1) Q ⟨(upd (upd (upd (upd (fun _ => none) 3 (some (lstV zb 0 1 b_.length))) 8 (some (lstV zb 0 1 b_.length))) 9 (some (I v9))) 10 (some (I v10))), (upd (fun _ => none) 0 (lstB zb 1 (b_.map (eK .u8)))), 1⟩ := by
  refine Sv.loop (I := csstok_lower_l0_I (csstok_lower_l0 K0_) o) (fun k s hI => ?_) ⟨b_, v9, v10, zb, hzb, h, rfl⟩
  clear h
  clear hzb zb v10 v9 b_
  obtain ⟨b_, v9, v10, zb, hzb, h, rfl⟩ := hI
  cases k with
  | zero => cases h
  | succ k =>
  rw [csstok_lower_l0] at h
  have hself : csstok_lower_l0_H (csstok_lower_l0 K0_ k) o (rnd 0 (csstok_lower_l0_I (csstok_lower_l0 K0_) o) k Q) := fun b_ v9 v10 zb hzb h s hw => ⟨_, k, hw, Nat.lt_succ_self k, b_, v9, v10, zb, hzb, h, rfl⟩
  refine Sv.seq ?_
  refine Sv.region ?_
  refine un (a1 (v := (B (decide (v10 < v9)))) rfl ?_)
  refine dnil ?_
  refine Sv.seq ?_
  refine Sv.cond (b := decide (v10 < v9)) rfl (fun hc1 => ?_) (fun hc1 => ?_)
  · replace h := ifT hc1 h
    refine Sv.skip ?_
    refine Sv.seq ?_
    refine Sv.block ?_
    refine Sv.seq ?_
    refine Sv.region ?_
    refine un (a1 rfl ?_)
    obtain ⟨x_, hx1, h⟩ := bnd h
    refine un (a1 (v := (.c (.ref 0 1 v10.toNat 0))) (s_iaddrL rfl rfl hzb hx1) ?_)
    refine un (a1 (v := (.c (.val (.int .u8 x_)))) (s_loadL (z := zb) (e := (eK .u8)) rfl rfl hzb hx1 rfl rfl) ?_)
    refine un (a1 rfl ?_)
    refine un (a1 rfl ?_)
    refine dnil ?_
    refine Sv.seq ?_
    refine Sv.region ?_
    refine un (a1 rfl ?_)
    refine un (a1 (v := (B (decide (65 ≤ x_)))) rfl ?_)
    refine un (a1 rfl ?_)
    refine gjoin 3 (d := 20) (v := (B ((decide (65 ≤ x_)) && (decide (x_ ≤ 90))))) (fun X hX => ?_) ?_
    · refine split2 (fun hc2 => ?_) (fun hc2 => ?_)
      · refine gt rfl (a1 rfl ?_)
        refine gt rfl (a1 (v := (B (decide (x_ ≤ 90)))) rfl ?_)
        refine un (a1 (v := (B (decide (x_ ≤ 90)))) rfl ?_)
        refine dnil ?_
        exact hX _ (.putEq (by rw [hc2]; rfl) (.skip _ _ (.skip _ _ (.putEq (by rw [hc2]) (.refl _)) rfl) rfl))
      · refine gs rfl rfl ?_
        refine gs rfl rfl ?_
        refine un (a1 (v := (B false)) rfl ?_)
        refine dnil ?_
        exact hX _ (.putEq (by rw [hc2]; rfl) (.skip _ _ (.skip _ _ (.putEq (by rw [hc2]) (.refl _)) rfl) rfl))
    refine dnil ?_
    refine Sv.cond (b := ((decide (65 ≤ x_)) && (decide (x_ ≤ 90)))) rfl (fun hc3 => ?_) (fun hc3 => ?_)
    · replace h := ifT hc3 h
      refine Sv.region ?_
      refine un (a1 rfl ?_)
      refine un (a1 rfl ?_)
      refine un (a1 rfl ?_)
      refine un (a1 (v := (.c (.val (.int .u8 (wr .u8 (x_ + 32)))))) rfl ?_)
      obtain ⟨x_1, hx2, h⟩ := bnd h
      refine un (a1 (v := (.c (.ref 0 1 v10.toNat 0))) (s_iaddrL rfl rfl hzb hx2) ?_)
      refine un (a2n (h' := upd _ 0 (lstB zb 1 ((b_.set v10.toNat (wr .u8 (x_ + 32))).map (eK .u8)))) (n' := 1) rfl (s_storeL (e := (eK .u8)) (q' := (wr .u8 (x_ + 32))) rfl rfl hzb hx2 rfl rfl rfl (Nat.le_of_ble_eq_true rfl) rfl) (fun h => by cases h) ?_)
      try rw [len_set b_ v10.toNat (wr .u8 (x_ + 32))]
      refine dnil ?_
      exact Sv.weak (weak_canon [0] rfl (by decide) (by decide) (fun b h => absurd h (Nat.not_lt_zero _)) (.cons rfl (avAs_free rfl) (.cons rfl (avAs_free rfl) (.cons rfl (.c (lstC_ren rfl (by decide))) (.cons rfl (.c (lstC_ren rfl (by decide))) .nil)))) (.row (by decide) rfl (fr_map fun _ => rfl) .nil)) (csstok_lower_j3_ok (hz_len hzb (len_set b_ v10.toNat (wr .u8 (x_ + 32)))) h hself hK0 hr)
    · replace h := ifF hc3 h
      refine Sv.skip ?_
      exact Sv.weak (weak_canon [0] rfl (by decide) (by decide) (fun b h => absurd h (Nat.not_lt_zero _)) (.cons rfl (avAs_free rfl) (.cons rfl (avAs_free rfl) (.cons rfl (.c (lstC_ren rfl (by decide))) (.cons rfl (.c (lstC_ren rfl (by decide))) .nil)))) (.row (by decide) rfl (fr_map fun _ => rfl) .nil)) (csstok_lower_j3_ok hzb h hself hK0 hr)
  · replace h := ifF hc1 h
    refine Sv.exit ?_
    exact hK0 b_ zb hzb h _ (weak_canon [0] rfl (by decide) (by decide) (fun b h => absurd h (Nat.not_lt_zero _)) (.cons rfl (.c (lstC_ren rfl (by decide))) .nil) (.row (by decide) rfl (fr_map fun _ => rfl) .nil))
/-- clerestory/csstok.lower -/
noncomputable def csstok_lower (s_ : (List UInt8)) : Option (List UInt8) :=
  limF fun kk => csstok_lower_l0 (fun (b_1 : (List Int)) => 
      some (byts b_1)) kk (ints s_) ((ints s_).length : Int) 0
theorem csstok_lower_ok {mL : Int} {s_ : (List UInt8)} {r : (List UInt8)} (h : csstok_lower s_ = some r) : CPure Tryd.prog (GG mL) 72 [(S s_)] (S r) := by
  refine acalls_of_sv hmix c72 (R := csstok_lower_post r) ?_
  unfold csstok_lower at h
  refine Sv.seq ?_
  refine Sv.region ?_
  refine un (a1 rfl ?_)
  refine dnil ?_
  refine Sv.seq ?_
  refine Sv.region ?_
  refine un (a1 rfl ?_)
  refine un (a2v (v := (lstV false 0 1 (ints s_).length)) (h' := upd _ 0 (lstB false 1 ((ints s_).map (eK .u8)))) (n' := 1) rfl (s_toBytes rfl) (fun h => by cases h) ?_)
  refine un (a1 rfl ?_)
  refine dnil ?_
  refine Sv.seq ?_
  refine Sv.seq ?_
  refine Sv.region ?_
  refine un (a1 rfl ?_)
  refine un (a1 (v := (I ((ints s_).length : Int))) (s_lenL rfl (len_nil_of (fun h => by cases h))) ?_)
  refine un (a1 rfl ?_)
  refine dnil ?_
  refine Sv.block ?_
  obtain ⟨kk, h⟩ := limF_some h
  refine Sv.weak (weak_canon [0] rfl (by decide) (by decide) (fun b h => absurd h (Nat.not_lt_zero _)) (.cons rfl (avAs_free rfl) (.cons rfl (avAs_free rfl) (.cons rfl (.c (lstC_ren rfl (by decide))) (.cons rfl (.c (lstC_ren rfl (by decide))) .nil)))) (.row (by decide) rfl (fr_map fun _ => rfl) .nil)) (csstok_lower_l0_ok (fun h => by cases h) h ?_ (fun s hs => hs))
  · intro b_1 zb_1 hzb_1 h _ hw1
    refine Sv.weak hw1 ?_
    refine Sv.seq ?_
    refine Sv.region ?_
    refine un (a1 rfl ?_)
    refine un (a1 (v := (S (byts b_1))) (s_ofBytes (xs := b_1) rfl (slc_lst rfl (List.length_map _).symm (map_nil_of hzb_1))) ?_)
    refine un (a1 rfl ?_)
    refine dnil ?_
    refine Sv.ret ?_
    replace h := Option.some.inj h
    subst h
    exact ⟨_, .refl _, _, rfl, ⟨upd (fun _ => none) 0 (some (S (byts b_1))), (fun _ => none), 0⟩, (S (byts b_1)), weak_canon [] rfl List.nodup_nil (Nat.le_refl _) (fun b h => absurd h (Nat.not_lt_zero _)) (.cons rfl (avAs_free rfl) .nil) .nil, rfl, rfl, rfl, rfl⟩
def a51_c0 : ACode := (.seq (.region [⟨(some 43), (.load true 4 (.tmp 7)), none⟩, ⟨none, (.store 4 (.tmp 6) (.tmp 43)), none⟩])
 .ret)
def a51 : AFunc := ⟨3, [(.cell true 4 6)], (.seq (.region [⟨(some 6), (.box (.const (.agg [(.val (.int .i64 0)), (.str []), (.str []), (.val (.int .i64 0))]))), none⟩])
 (.seq (.region [⟨(some 11), (.mov (.tmp 0)), none⟩, ⟨(some 12), (.mov (.tmp 2)), none⟩, ⟨(some 13), (.slStr (.tmp 11) none (some (.tmp 12))), none⟩, ⟨(some 14), (.mov (.tmp 1)), none⟩, ⟨(some 15), (.build [(.val (.int .i64 0)), (.str []), (.str []), (.val (.int .i64 0))] [(0, (1, (.const (.c (.val (.int .i64 7)))))), (1, (1, (.tmp 13))), (3, (1, (.tmp 14)))]), none⟩, ⟨(some 7), (.box (.const (.agg [(.val (.int .i64 0)), (.str []), (.str []), (.val (.int .i64 0))]))), none⟩, ⟨none, (.store 4 (.tmp 7) (.tmp 15)), none⟩])
 (.seq (.seq (.region [⟨(some 16), (.mov (.tmp 0)), none⟩, ⟨(some 17), (.mov (.tmp 2)), none⟩, ⟨(some 18), (.slStr (.tmp 16) (some (.tmp 17)) none), none⟩, ⟨(some 8), (.mov (.tmp 18)), none⟩])
 (.seq (.region [⟨(some 19), (.mov (.tmp 8)), none⟩, ⟨(some 20), (.call 52 [(.tmp 19), (.const (.c (.str [37])))]), none⟩])
 (.cond (.tmp 20) (.region [⟨(some 21), (.mov (.tmp 0)), none⟩, ⟨(some 22), (.mov (.tmp 2)), none⟩, ⟨(some 23), (.bin .add (.tmp 22) (.const (.c (.val (.int .i64 1))))), none⟩, ⟨(some 24), (.slStr (.tmp 21) none (some (.tmp 23))), none⟩, ⟨(some 25), (.faddr 1 (.tmp 7)), none⟩, ⟨none, (.store 1 (.tmp 25) (.tmp 24)), none⟩, ⟨(some 26), (.faddr 2 (.tmp 7)), none⟩, ⟨none, (.store 1 (.tmp 26) (.const (.c (.str [37])))), none⟩]) (.seq (.region [⟨(some 27), (.mov (.tmp 8)), none⟩, ⟨(some 28), (.call 49 [(.tmp 27)]), none⟩])
 (.cond (.tmp 28) (.seq (.region [⟨(some 30), (.mov (.tmp 8)), none⟩, ⟨(some 31), (.call 69 [(.tmp 30)]), none⟩, ⟨(some 29), (.mov (.tmp 31)), none⟩, ⟨(some 32), (.ext (.tmp 29) 0), none⟩, ⟨(some 33), (.ext (.tmp 29) 1), none⟩, ⟨(some 9), (.mov (.tmp 32)), none⟩, ⟨(some 10), (.mov (.tmp 33)), none⟩])
 (.drawn (.fin [(⟨(some 34), (.mov (.tmp 0)), none⟩, (0, 0)), (⟨(some 35), (.mov (.tmp 2)), none⟩, (0, 1)), (⟨(some 36), (.mov (.tmp 10)), none⟩, (0, 2)), (⟨(some 37), (.bin .add (.tmp 35) (.tmp 36)), none⟩, (0, 3)), (⟨(some 38), (.slStr (.tmp 34) none (some (.tmp 37))), none⟩, (0, 4)), (⟨(some 39), (.mov (.tmp 9)), none⟩, (0, 5)), (⟨(some 41), (.faddr 1 (.tmp 7)), none⟩, (0, 7)), (⟨(some 40), (.call 72 [(.tmp 39)]), none⟩, (2, 6)), (⟨none, (.store 1 (.tmp 41) (.tmp 38)), none⟩, (2, 8)), (⟨(some 42), (.faddr 2 (.tmp 7)), none⟩, (0, 9)), (⟨none, (.store 1 (.tmp 42) (.tmp 40)), none⟩, (2, 10))]))) .skip)))))
 a51_c0)))⟩
set_option maxRecDepth 100000 in
theorem c51 : compFunc Tryd.prog 51 = some a51 := by kernel_rfl
def csstok_number_post (r : TSToken) : AV → Heap → Nat → Prop := fun v h' n' => v = (.agg [cI r.Kind, .str r.Raw, .str r.Value, cI r.Num]) ∧ (h' = (fun _ => none)) ∧ n' = 0
noncomputable def csstok_number_j1 (num : Int) (t1 : (List UInt8)) (t2 : (List UInt8)) : Option TSToken :=
  some (⟨7, t1, t2, num⟩ : TSToken)
theorem csstok_number_j1_ok {mL : Int} {num : Int} {t1 : (List UInt8)} {t2 : (List UInt8)} {o : TSToken} (h : csstok_number_j1 num t1 t2 = some o) :
    Sv Tryd.prog (GG mL) 0 a51_c0 (Ends a51.results 0 (csstok_number_post o)) ⟨(upd (upd (fun _ => none) 6 (some (.c (.ref 0 4 0 0)))) 7 (some (.c (.ref 1 4 0 0)))), (upd (upd (fun _ => none) 0 (some (.cells 4 [[cI 0, .str [], .str [], cI 0]]))) 1 (some (.cells 4 [[cI 7, .str t1, .str t2, cI num]]))), 2⟩ := by
  unfold csstok_number_j1 at h
  refine Sv.seq ?_
  refine Sv.region ?_
  refine un (a1 (v := (.agg [cI 7, .str t1, .str t2, cI num])) rfl ?_)
  refine un (a2n (h' := upd _ 0 (some (.cells 4 [[cI 7, .str t1, .str t2, cI num]]))) (n' := 2) rfl rfl (fun h => by cases h) ?_)
  refine dnil ?_
  refine Sv.ret ?_
  replace h := Option.some.inj h
  subst h
  exact ⟨_, .refl _, _, rfl, ⟨upd (fun _ => none) 0 (some (.agg [cI 7, .str t1, .str t2, cI num])), (fun _ => none), 0⟩, (.agg [cI 7, .str t1, .str t2, cI num]), weak_canon [] rfl List.nodup_nil (Nat.le_refl _) (fun b h => absurd h (Nat.not_lt_zero _)) (.cons rfl (avAs_free rfl) .nil) .nil, rfl, rfl, rfl, rfl⟩
/-- clerestory/csstok.number -/
noncomputable def csstok_number (s_ : (List UInt8)) (num : Int) (n_ : Int) : Option TSToken :=
  (sub? s_ 0 n_).bind fun r_ =>
  (sub? s_ n_ (s_.length : Int)).bind fun r_1 =>
  (strings_HasPrefix r_1 [37]).bind fun r_2 =>
  if r_2 then
    (sub? s_ 0 (wi (n_ + 1))).bind fun r_3 =>
    csstok_number_j1 num r_3 [37]
  else
    (csstok_begins r_1).bind fun r_4 =>
    if r_4 then
      (csstok_name r_1).bind fun r_5 =>
      (sub? s_ 0 (wi (n_ + r_5.2))).bind fun r_6 =>
      (csstok_lower r_5.1).bind fun r_7 =>
      csstok_number_j1 num r_6 r_7
    else
      csstok_number_j1 num r_ []
theorem csstok_number_ok {mL : Int} {s_ : (List UInt8)} {num : Int} {n_ : Int} {r : TSToken} (h : csstok_number s_ num n_ = some r) : CPure Tryd.prog (GG mL) 51 [(S s_), (I num), (I n_)] (.agg [cI r.Kind, .str r.Raw, .str r.Value, cI r.Num]) := by
  refine acalls_of_sv hmix c51 (R := csstok_number_post r) ?_
  unfold csstok_number at h
  refine Sv.seq ?_
  refine Sv.region ?_
  refine un (a2v (v := (.c (.ref 0 4 0 0))) (h' := upd _ 0 (some (.cells 4 [[cI 0, .str [], .str [], cI 0]]))) (n' := 1) rfl rfl (fun h => by cases h) ?_)
  refine dnil ?_
  refine Sv.seq ?_
  refine Sv.region ?_
  refine un (a1 rfl ?_)
  refine un (a1 rfl ?_)
  obtain ⟨r_, hx1, h⟩ := bnd h
  refine un (a1 (v := (S r_)) (s_slStr rfl rfl rfl hx1) ?_)
  refine un (a1 rfl ?_)
  refine un (a1 (v := (.agg [cI 7, .str r_, .str [], cI num])) rfl ?_)
  refine un (a2v (v := (.c (.ref 1 4 0 0))) (h' := upd _ 1 (some (.cells 4 [[cI 0, .str [], .str [], cI 0]]))) (n' := 2) rfl rfl (fun h => by cases h) ?_)
  refine un (a2n (h' := upd _ 1 (some (.cells 4 [[cI 7, .str r_, .str [], cI num]]))) (n' := 2) rfl rfl (fun h => by cases h) ?_)
  refine dnil ?_
  refine Sv.seq ?_
  refine Sv.seq ?_
  refine Sv.region ?_
  refine un (a1 rfl ?_)
  refine un (a1 rfl ?_)
  obtain ⟨r_1, hx2, h⟩ := bnd h
  refine un (a1 (v := (S r_1)) (s_slStr rfl rfl rfl hx2) ?_)
  refine un (a1 rfl ?_)
  refine dnil ?_
  refine Sv.seq ?_
  refine Sv.region ?_
  refine un (a1 rfl ?_)
  obtain ⟨r_2, hr1, h⟩ := bnd h
  refine un (ac_pure (strings_HasPrefix_ok hr1) rfl rfl rfl ?_)
  refine dnil ?_
  refine Sv.cond (b := r_2) rfl (fun hc1 => ?_) (fun hc1 => ?_)
  · replace h := ifT hc1 h
    refine Sv.region ?_
    refine un (a1 rfl ?_)
    refine un (a1 rfl ?_)
    refine un (a1 (v := (I (wi (n_ + 1)))) rfl ?_)
    obtain ⟨r_3, hx3, h⟩ := bnd h
    refine un (a1 (v := (S r_3)) (s_slStr rfl rfl rfl hx3) ?_)
    refine un (a1 (v := (.c (.ref 1 4 0 1))) rfl ?_)
    refine un (a2n (h' := upd _ 1 (some (.cells 4 [[cI 7, .str r_3, .str [], cI num]]))) (n' := 2) rfl rfl (fun h => by cases h) ?_)
    refine un (a1 (v := (.c (.ref 1 4 0 2))) rfl ?_)
    refine un (a2n (h' := upd _ 1 (some (.cells 4 [[cI 7, .str r_3, .str [37], cI num]]))) (n' := 2) rfl rfl (fun h => by cases h) ?_)
    refine dnil ?_
    exact Sv.weak (weak_canon [0, 1] rfl (by decide) (by decide) (fun b h => absurd h (Nat.not_lt_zero _)) (.cons rfl (.c (.ref rfl (by decide))) (.cons rfl (.c (.ref rfl (by decide))) .nil)) (.box (by decide) rfl (blkAs_cells (.cons (.same rfl) (.cons (.same rfl) (.cons (.same rfl) (.cons (.same rfl) .nil))))) (.box (by decide) rfl (blkAs_cells (.cons (.same rfl) (.cons (.same rfl) (.cons (.same rfl) (.cons (.same rfl) .nil))))) .nil))) (csstok_number_j1_ok h)
  · replace h := ifF hc1 h
    refine Sv.seq ?_
    refine Sv.region ?_
    refine un (a1 rfl ?_)
    obtain ⟨r_4, hr2, h⟩ := bnd h
    refine un (ac_pure (csstok_begins_ok hr2) rfl rfl rfl ?_)
    refine dnil ?_
    refine Sv.cond (b := r_4) rfl (fun hc2 => ?_) (fun hc2 => ?_)
    · replace h := ifT hc2 h
      refine Sv.seq ?_
      refine Sv.region ?_
      refine un (a1 rfl ?_)
      obtain ⟨r_5, hr3, h⟩ := bnd h
      refine un (ac_pure (csstok_name_ok hr3) rfl rfl rfl ?_)
      refine un (a1 rfl ?_)
      refine un (a1 (v := (S r_5.1)) rfl ?_)
      refine un (a1 (v := (I r_5.2)) rfl ?_)
      refine un (a1 rfl ?_)
      refine un (a1 rfl ?_)
      refine dnil ?_
      refine Sv.drawn ?_
      refine un (a1 rfl ?_)
      refine un (a1 rfl ?_)
      refine un (a1 rfl ?_)
      refine un (a1 (v := (I (wi (n_ + r_5.2)))) rfl ?_)
      obtain ⟨r_6, hx4, h⟩ := bnd h
      refine un (a1 (v := (S r_6)) (s_slStr rfl rfl rfl hx4) ?_)
      refine un (a1 rfl ?_)
      refine un (a1 (v := (.c (.ref 1 4 0 1))) rfl ?_)
      obtain ⟨r_7, hr4, h⟩ := bnd h
      refine un (ac_pure (csstok_lower_ok hr4) rfl rfl rfl ?_)
      refine un (a2n (h' := upd _ 1 (some (.cells 4 [[cI 7, .str r_6, .str [], cI num]]))) (n' := 2) rfl rfl (fun h => by cases h) ?_)
      refine un (a1 (v := (.c (.ref 1 4 0 2))) rfl ?_)
      refine un (a2n (h' := upd _ 1 (some (.cells 4 [[cI 7, .str r_6, .str r_7, cI num]]))) (n' := 2) rfl rfl (fun h => by cases h) ?_)
      refine dnil ?_
      exact Sv.weak (weak_canon [0, 1] rfl (by decide) (by decide) (fun b h => absurd h (Nat.not_lt_zero _)) (.cons rfl (.c (.ref rfl (by decide))) (.cons rfl (.c (.ref rfl (by decide))) .nil)) (.box (by decide) rfl (blkAs_cells (.cons (.same rfl) (.cons (.same rfl) (.cons (.same rfl) (.cons (.same rfl) .nil))))) (.box (by decide) rfl (blkAs_cells (.cons (.same rfl) (.cons (.same rfl) (.cons (.same rfl) (.cons (.same rfl) .nil))))) .nil))) (csstok_number_j1_ok h)
    · replace h := ifF hc2 h
      refine Sv.skip ?_
      exact Sv.weak (weak_canon [0, 1] rfl (by decide) (by decide) (fun b h => absurd h (Nat.not_lt_zero _)) (.cons rfl (.c (.ref rfl (by decide))) (.cons rfl (.c (.ref rfl (by decide))) .nil)) (.box (by decide) rfl (blkAs_cells (.cons (.same rfl) (.cons (.same rfl) (.cons (.same rfl) (.cons (.same rfl) .nil))))) (.box (by decide) rfl (blkAs_cells (.cons (.same rfl) (.cons (.same rfl) (.cons (.same rfl) (.cons (.same rfl) .nil))))) .nil))) (csstok_number_j1_ok h)
def a41 : AFunc := ⟨2, [(.cell true 4 3)], (.seq (.region [⟨(some 3), (.box (.const (.agg [(.val (.int .i64 0)), (.str []), (.str []), (.val (.int .i64 0))]))), none⟩])
 (.seq (.region [⟨(some 4), (.mov (.tmp 0)), none⟩, ⟨(some 5), (.load false 1 (.tmp 1)), none⟩, ⟨(some 6), (.slStr (.tmp 5) none (some (.const (.c (.val (.int .i64 1)))))), none⟩, ⟨(some 7), (.build [(.val (.int .i64 0)), (.str []), (.str []), (.val (.int .i64 0))] [(0, (1, (.tmp 4))), (1, (1, (.tmp 6)))]), none⟩, ⟨none, (.store 4 (.tmp 3) (.tmp 7)), none⟩])
 .ret))⟩
set_option maxRecDepth 100000 in
theorem c41 : compFunc Tryd.prog 41 = some a41 := by kernel_rfl
def csstok_first_fn1_post (r : TSToken) : AV → Heap → Nat → Prop := fun v h' n' => v = (.agg [cI r.Kind, .str r.Raw, .str r.Value, cI r.Num]) ∧ (h' = (fun _ => none)) ∧ n' = 0
/-- clerestory/csstok.first$1 -/
noncomputable def csstok_first_fn1 (kind : Int) (v1 : (List UInt8)) : Option TSToken :=
  (sub? v1 0 1).bind fun r_ =>
  some (⟨kind, r_, [], 0⟩ : TSToken)
theorem csstok_first_fn1_ok {mL : Int} {kind : Int} {v1 : (List UInt8)} {r : TSToken} (h : csstok_first_fn1 kind v1 = some r) : CPure Tryd.prog (GG mL) 41 [(I kind), (.c (.rop [.str v1]))] (.agg [cI r.Kind, .str r.Raw, .str r.Value, cI r.Num]) := by
  refine acalls_of_sv hmix c41 (R := csstok_first_fn1_post r) ?_
  unfold csstok_first_fn1 at h
  refine Sv.seq ?_
  refine Sv.region ?_
  refine un (a2v (v := (.c (.ref 0 4 0 0))) (h' := upd _ 0 (some (.cells 4 [[cI 0, .str [], .str [], cI 0]]))) (n' := 1) rfl rfl (fun h => by cases h) ?_)
  refine dnil ?_
  refine Sv.seq ?_
  refine Sv.region ?_
  refine un (a1 rfl ?_)
  refine un (a1 (v := (S v1)) rfl ?_)
  obtain ⟨r_, hx1, h⟩ := bnd h
  refine un (a1 (v := (S r_)) (s_slStr rfl rfl rfl hx1) ?_)
  refine un (a1 (v := (.agg [cI kind, .str r_, .str [], cI 0])) rfl ?_)
  refine un (a2n (h' := upd _ 0 (some (.cells 4 [[cI kind, .str r_, .str [], cI 0]]))) (n' := 1) rfl rfl (fun h => by cases h) ?_)
  refine dnil ?_
  refine Sv.ret ?_
  replace h := Option.some.inj h
  subst h
  exact ⟨_, .refl _, _, rfl, ⟨upd (fun _ => none) 0 (some (.agg [cI kind, .str r_, .str [], cI 0])), (fun _ => none), 0⟩, (.agg [cI kind, .str r_, .str [], cI 0]), weak_canon [] rfl List.nodup_nil (Nat.le_refl _) (fun b h => absurd h (Nat.not_lt_zero _)) (.cons rfl (avAs_free rfl) .nil) .nil, rfl, rfl, rfl, rfl⟩
def a27_c0 : ACode := (.seq (.region [⟨(some 40), (.load false 1 (.tmp 1)), none⟩, ⟨(some 41), (.build [(.val (.int .i64 0)), (.str []), (.str []), (.val (.int .i64 0))] [(0, (1, (.const (.c (.val (.int .i64 9)))))), (1, (1, (.tmp 40)))]), none⟩, ⟨none, (.store 4 (.tmp 2) (.tmp 41)), none⟩])
 .ret)
def a27_c3 : ACode := (.cond (.tmp 73) (.seq (.region [⟨(some 81), (.load false 1 (.tmp 1)), none⟩, ⟨(some 82), (.call 48 [(.const (.c (.val (.int .i64 3)))), (.tmp 81), (.const (.c (.val (.int .i64 1))))]), none⟩, ⟨none, (.store 4 (.tmp 2) (.tmp 82)), none⟩])
 .ret) .skip)
def a27_c2 : ACode := (.cond (.tmp 53) (.seq (.region [⟨(some 71), (.load false 1 (.tmp 1)), none⟩, ⟨(some 72), (.call 48 [(.const (.c (.val (.int .i64 4)))), (.tmp 71), (.const (.c (.val (.int .i64 1))))]), none⟩, ⟨none, (.store 4 (.tmp 2) (.tmp 72)), none⟩])
 .ret) (.seq (.region [⟨(some 74), (.mov (.tmp 8)), none⟩, ⟨(some 75), (.bin .eql (.tmp 74) (.const (.c (.val (.int .u8 64))))), none⟩, ⟨(some 76), (.mov (.tmp 75)), none⟩, ⟨(some 77), (.load false 1 (.tmp 1)), (some (76, true))⟩, ⟨(some 78), (.slStr (.tmp 77) (some (.const (.c (.val (.int .i64 1))))) none), (some (76, true))⟩, ⟨(some 79), (.call 49 [(.tmp 78)]), (some (76, true))⟩, ⟨(some 80), (.pick (.tmp 76) (.tmp 79) (.const (.c (.val (.bool false))))), none⟩, ⟨(some 73), (.mov (.tmp 80)), none⟩])
 a27_c3))
def a27_c4 : ACode := (.seq (.region [⟨(some 111), (.load true 4 (.tmp 11)), none⟩, ⟨none, (.store 4 (.tmp 2) (.tmp 111)), none⟩])
 .ret)
def a27_c7 : ACode := (.cond (.tmp 120) (.seq (.region [⟨(some 124), (.mov (.tmp 3)), none⟩, ⟨(some 125), (.callv (.tmp 124) [(.const (.c (.val (.int .i64 11))))]), none⟩, ⟨none, (.store 4 (.tmp 2) (.tmp 125)), none⟩])
 .ret) (.seq (.region [⟨(some 127), (.bin .eql (.tmp 113) (.const (.c (.val (.int .u8 92))))), none⟩, ⟨(some 126), (.mov (.tmp 127)), none⟩])
 (.cond (.tmp 126) (.seq (.region [⟨(some 128), (.mov (.tmp 3)), none⟩, ⟨(some 129), (.callv (.tmp 128) [(.const (.c (.val (.int .i64 6))))]), none⟩, ⟨none, (.store 4 (.tmp 2) (.tmp 129)), none⟩])
 .ret) .skip)))
def a27_c6 : ACode := (.cond (.tmp 114) (.seq (.region [⟨(some 118), (.mov (.tmp 3)), none⟩, ⟨(some 119), (.callv (.tmp 118) [(.const (.c (.val (.int .i64 10))))]), none⟩, ⟨none, (.store 4 (.tmp 2) (.tmp 119)), none⟩])
 .ret) (.seq (.seq (.region [⟨(some 121), (.bin .eql (.tmp 113) (.const (.c (.val (.int .u8 41))))), none⟩, ⟨(some 120), (.mov (.tmp 121)), none⟩])
 (.cond (.tmp 120) .skip (.seq (.region [⟨(some 122), (.bin .eql (.tmp 113) (.const (.c (.val (.int .u8 93))))), none⟩, ⟨(some 120), (.mov (.tmp 122)), none⟩])
 (.cond (.tmp 120) .skip (.region [⟨(some 123), (.bin .eql (.tmp 113) (.const (.c (.val (.int .u8 125))))), none⟩, ⟨(some 120), (.mov (.tmp 123)), none⟩])))))
 a27_c7))
def a27_c8 : ACode := (.seq (.region [⟨(some 130), (.mov (.tmp 3)), none⟩, ⟨(some 131), (.callv (.tmp 130) [(.const (.c (.val (.int .i64 12))))]), none⟩, ⟨none, (.store 4 (.tmp 2) (.tmp 131)), none⟩])
 .ret)
def a27_c5 : ACode := (.seq (.seq (.region [⟨(some 112), (.load false 1 (.tmp 1)), none⟩, ⟨(some 113), (.idxS (.tmp 112) (.const (.c (.val (.int .i64 0))))), none⟩])
 (.block 1 (.seq (.seq (.region [⟨(some 115), (.bin .eql (.tmp 113) (.const (.c (.val (.int .u8 40))))), none⟩, ⟨(some 114), (.mov (.tmp 115)), none⟩])
 (.cond (.tmp 114) .skip (.seq (.region [⟨(some 116), (.bin .eql (.tmp 113) (.const (.c (.val (.int .u8 91))))), none⟩, ⟨(some 114), (.mov (.tmp 116)), none⟩])
 (.cond (.tmp 114) .skip (.region [⟨(some 117), (.bin .eql (.tmp 113) (.const (.c (.val (.int .u8 123))))), none⟩, ⟨(some 114), (.mov (.tmp 117)), none⟩])))))
 a27_c6)))
 a27_c8)
def a27_c9 : ACode := (.seq (.seq (.region [⟨(some 84), (.load false 1 (.tmp 1)), none⟩, ⟨(some 85), (.call 50 [(.tmp 84)]), none⟩, ⟨(some 83), (.mov (.tmp 85)), none⟩, ⟨(some 86), (.ext (.tmp 83) 0), none⟩, ⟨(some 87), (.ext (.tmp 83) 1), none⟩, ⟨(some 9), (.mov (.tmp 86)), none⟩, ⟨(some 10), (.mov (.tmp 87)), none⟩])
 (.seq (.region [⟨(some 88), (.mov (.tmp 10)), none⟩, ⟨(some 89), (.bin .gtr (.tmp 88) (.const (.c (.val (.int .i64 0))))), none⟩])
 (.cond (.tmp 89) (.seq (.region [⟨(some 90), (.load false 1 (.tmp 1)), none⟩, ⟨(some 91), (.mov (.tmp 9)), none⟩, ⟨(some 92), (.mov (.tmp 10)), none⟩, ⟨(some 93), (.call 51 [(.tmp 90), (.tmp 91), (.tmp 92)]), none⟩, ⟨none, (.store 4 (.tmp 2) (.tmp 93)), none⟩])
 .ret) .skip)))
 (.seq (.seq (.region [⟨(some 94), (.load false 1 (.tmp 1)), none⟩, ⟨(some 95), (.call 49 [(.tmp 94)]), none⟩])
 (.cond (.tmp 95) (.seq (.region [⟨(some 96), (.load false 1 (.tmp 1)), none⟩, ⟨(some 97), (.call 48 [(.const (.c (.val (.int .i64 1)))), (.tmp 96), (.const (.c (.val (.int .i64 0))))]), none⟩, ⟨(some 11), (.box (.const (.agg [(.val (.int .i64 0)), (.str []), (.str []), (.val (.int .i64 0))]))), none⟩, ⟨none, (.store 4 (.tmp 11) (.tmp 97)), none⟩])
 (.seq (.seq (.region [⟨(some 98), (.faddr 1 (.tmp 11)), none⟩, ⟨(some 99), (.load false 1 (.tmp 98)), none⟩, ⟨(some 100), (.lenS (.tmp 99)), none⟩, ⟨(some 12), (.mov (.tmp 100)), none⟩])
 (.seq (.region [⟨(some 101), (.load false 1 (.tmp 1)), none⟩, ⟨(some 102), (.mov (.tmp 12)), none⟩, ⟨(some 103), (.slStr (.tmp 101) (some (.tmp 102)) none), none⟩, ⟨(some 104), (.call 52 [(.tmp 103), (.const (.c (.str [40])))]), none⟩])
 (.cond (.tmp 104) (.drawn (.alt [(⟨(some 106), (.mov (.tmp 12)), none⟩, (0, 1)), (⟨(some 107), (.bin .add (.tmp 106) (.const (.c (.val (.int .i64 1))))), none⟩, (0, 2)), (⟨(some 109), (.faddr 0 (.tmp 11)), none⟩, (0, 4))] (.fin [(⟨(some 105), (.load false 1 (.tmp 1)), none⟩, (2, 0)), (⟨(some 108), (.slStr (.tmp 105) none (some (.tmp 107))), none⟩, (0, 3)), (⟨none, (.store 1 (.tmp 109) (.const (.c (.val (.int .i64 2))))), none⟩, (2, 5)), (⟨(some 110), (.faddr 1 (.tmp 11)), none⟩, (0, 6)), (⟨none, (.store 1 (.tmp 110) (.tmp 108)), none⟩, (2, 7))]) (.fin [(⟨none, (.store 1 (.tmp 109) (.const (.c (.val (.int .i64 2))))), none⟩, (2, 5)), (⟨(some 105), (.load false 1 (.tmp 1)), none⟩, (2, 0)), (⟨(some 108), (.slStr (.tmp 105) none (some (.tmp 107))), none⟩, (0, 3)), (⟨(some 110), (.faddr 1 (.tmp 11)), none⟩, (0, 6)), (⟨none, (.store 1 (.tmp 110) (.tmp 108)), none⟩, (2, 7))]))) .skip)))
 a27_c4)) .skip))
 a27_c5))
def a27_c1 : ACode := (.seq (.seq (.region [⟨(some 42), (.load false 1 (.tmp 1)), none⟩, ⟨(some 43), (.idxS (.tmp 42) (.const (.c (.val (.int .i64 0))))), none⟩, ⟨(some 8), (.mov (.tmp 43)), none⟩])
 (.block 0 (.seq (.region [⟨(some 45), (.mov (.tmp 8)), none⟩, ⟨(some 46), (.bin .eql (.tmp 45) (.const (.c (.val (.int .u8 39))))), none⟩, ⟨(some 47), (.mov (.tmp 46)), none⟩, ⟨(some 48), (.mov (.tmp 8)), (some (47, false))⟩, ⟨(some 49), (.bin .eql (.tmp 48) (.const (.c (.val (.int .u8 34))))), (some (47, false))⟩, ⟨(some 50), (.pick (.tmp 47) (.const (.c (.val (.bool true)))) (.tmp 49)), none⟩, ⟨(some 44), (.mov (.tmp 50)), none⟩])
 (.cond (.tmp 44) (.seq (.region [⟨(some 51), (.load false 1 (.tmp 1)), none⟩, ⟨(some 52), (.call 45 [(.tmp 51)]), none⟩, ⟨none, (.store 4 (.tmp 2) (.tmp 52)), none⟩])
 .ret) (.seq (.region [⟨(some 54), (.mov (.tmp 8)), none⟩, ⟨(some 55), (.bin .eql (.tmp 54) (.const (.c (.val (.int .u8 35))))), none⟩, ⟨(some 56), (.mov (.tmp 55)), none⟩, ⟨(some 57), (.load false 1 (.tmp 1)), (some (56, true))⟩, ⟨(some 58), (.lenS (.tmp 57)), (some (56, true))⟩, ⟨(some 59), (.bin .gtr (.tmp 58) (.const (.c (.val (.int .i64 1))))), (some (56, true))⟩, ⟨(some 60), (.pick (.tmp 56) (.tmp 59) (.const (.c (.val (.bool false))))), none⟩, ⟨(some 61), (.mov (.tmp 60)), none⟩, ⟨(some 62), (.load false 1 (.tmp 1)), (some (61, true))⟩, ⟨(some 63), (.idxS (.tmp 62) (.const (.c (.val (.int .i64 1))))), (some (61, true))⟩, ⟨(some 64), (.call 46 [(.tmp 63)]), (some (61, true))⟩, ⟨(some 65), (.mov (.tmp 64)), (some (61, true))⟩, ⟨(some 66), (.load false 1 (.tmp 1)), (some (65, false))⟩, ⟨(some 67), (.slStr (.tmp 66) (some (.const (.c (.val (.int .i64 1))))) none), (some (65, false))⟩, ⟨(some 68), (.call 47 [(.tmp 67)]), (some (65, false))⟩, ⟨(some 69), (.pick (.tmp 65) (.const (.c (.val (.bool true)))) (.tmp 68)), (some (61, true))⟩, ⟨(some 70), (.pick (.tmp 61) (.tmp 69) (.const (.c (.val (.bool false))))), none⟩, ⟨(some 53), (.mov (.tmp 70)), none⟩])
 a27_c2)))))
 a27_c9)
def a27 : AFunc := ⟨1, [(.cell true 4 2)], (.seq (.region [⟨(some 1), (.box (.tmp 0)), none⟩, ⟨(some 2), (.box (.const (.agg [(.val (.int .i64 0)), (.str []), (.str []), (.val (.int .i64 0))]))), none⟩])
 (.seq (.region [⟨(some 13), (.mkfn (.func 41) [] [(.tmp 1)]), none⟩, ⟨(some 3), (.mov (.tmp 13)), none⟩])
 (.seq (.seq (.drawn (.fin [(⟨(some 14), (.load false 1 (.tmp 1)), none⟩, (0, 0)), (⟨(some 15), (.lenS (.tmp 14)), none⟩, (0, 1)), (⟨(some 16), (.load false 1 (.tmp 1)), none⟩, (0, 2)), (⟨(some 17), (.call 42 [(.tmp 16), (.const (.c (.str [32, 9, 10, 12, 13])))]), none⟩, (1, 3)), (⟨(some 18), (.lenS (.tmp 17)), none⟩, (0, 4)), (⟨(some 19), (.bin .sub (.tmp 15) (.tmp 18)), none⟩, (0, 5)), (⟨(some 4), (.mov (.tmp 19)), none⟩, (0, 6))]))
 (.seq (.region [⟨(some 20), (.mov (.tmp 4)), none⟩, ⟨(some 21), (.bin .gtr (.tmp 20) (.const (.c (.val (.int .i64 0))))), none⟩])
 (.cond (.tmp 21) (.seq (.region [⟨(some 22), (.load false 1 (.tmp 1)), none⟩, ⟨(some 23), (.mov (.tmp 4)), none⟩, ⟨(some 24), (.slStr (.tmp 22) none (some (.tmp 23))), none⟩, ⟨(some 25), (.build [(.val (.int .i64 0)), (.str []), (.str []), (.val (.int .i64 0))] [(0, (1, (.const (.c (.val (.int .i64 8)))))), (1, (1, (.tmp 24)))]), none⟩, ⟨none, (.store 4 (.tmp 2) (.tmp 25)), none⟩])
 .ret) .skip)))
 (.seq (.seq (.region [⟨(some 27), (.load false 1 (.tmp 1)), none⟩, ⟨(some 28), (.call 43 [(.tmp 27), (.const (.c (.str [47, 42])))]), none⟩, ⟨(some 26), (.mov (.tmp 28)), none⟩, ⟨(some 29), (.ext (.tmp 26) 0), none⟩, ⟨(some 30), (.ext (.tmp 26) 1), none⟩, ⟨(some 5), (.mov (.tmp 29)), none⟩, ⟨(some 6), (.mov (.tmp 30)), none⟩])
 (.seq (.region [⟨(some 31), (.mov (.tmp 6)), none⟩])
 (.cond (.tmp 31) (.seq (.seq (.region [⟨(some 32), (.mov (.tmp 5)), none⟩, ⟨(some 33), (.call 44 [(.tmp 32), (.const (.c (.str [42, 47])))]), none⟩, ⟨(some 7), (.mov (.tmp 33)), none⟩])
 (.seq (.region [⟨(some 34), (.mov (.tmp 7)), none⟩, ⟨(some 35), (.bin .geq (.tmp 34) (.const (.c (.val (.int .i64 0))))), none⟩])
 (.cond (.tmp 35) (.region [⟨(some 36), (.load false 1 (.tmp 1)), none⟩, ⟨(some 37), (.mov (.tmp 7)), none⟩, ⟨(some 38), (.bin .add (.tmp 37) (.const (.c (.val (.int .i64 4))))), none⟩, ⟨(some 39), (.slStr (.tmp 36) none (some (.tmp 38))), none⟩, ⟨none, (.store 1 (.tmp 1) (.tmp 39)), none⟩]) .skip)))
 a27_c0) .skip)))
 a27_c1))))⟩
set_option maxRecDepth 100000 in
theorem c27 : compFunc Tryd.prog 27 = some a27 := by kernel_rfl
def csstok_first_post (r : TSToken) : AV → Heap → Nat → Prop := fun v h' n' => v = (.agg [cI r.Kind, .str r.Raw, .str r.Value, cI r.Num]) ∧ (h' = (fun _ => none)) ∧ n' = 0
abbrev csstok_first_q0 (mL : Int) (o : TSToken) : AExit → St → Prop := AThen (Sv Tryd.prog (GG mL) 0 a27_c1 (Ends a27.results 0 (csstok_first_post o))) (Ends a27.results 0 (csstok_first_post o))
noncomputable def csstok_first_j1 (s_1 : (List UInt8)) : Option TSToken :=
  some (⟨9, s_1, [], 0⟩ : TSToken)
theorem csstok_first_j1_ok {mL : Int} {s_1 : (List UInt8)} {o : TSToken} (h : csstok_first_j1 s_1 = some o) :
    Sv Tryd.prog (GG mL) 0 a27_c0 (csstok_first_q0 mL o) ⟨(upd (upd (fun _ => none) 1 (some (.c (.ref 0 1 0 0)))) 2 (some (.c (.ref 1 4 0 0)))), (upd (upd (fun _ => none) 0 (some (.cells 1 [[.str s_1]]))) 1 (some (.cells 4 [[cI 0, .str [], .str [], cI 0]]))), 2⟩ := by
  unfold csstok_first_j1 at h
  refine Sv.seq ?_
  refine Sv.region ?_
  refine un (a1 (v := (S s_1)) rfl ?_)
  refine un (a1 (v := (.agg [cI 9, .str s_1, .str [], cI 0])) rfl ?_)
  refine un (a2n (h' := upd _ 1 (some (.cells 4 [[cI 9, .str s_1, .str [], cI 0]]))) (n' := 2) rfl rfl (fun h => by cases h) ?_)
  refine dnil ?_
  refine Sv.ret ?_
  replace h := Option.some.inj h
  subst h
  exact ⟨_, .refl _, _, rfl, ⟨upd (fun _ => none) 0 (some (.agg [cI 9, .str s_1, .str [], cI 0])), (fun _ => none), 0⟩, (.agg [cI 9, .str s_1, .str [], cI 0]), weak_canon [] rfl List.nodup_nil (Nat.le_refl _) (fun b h => absurd h (Nat.not_lt_zero _)) (.cons rfl (avAs_free rfl) .nil) .nil, rfl, rfl, rfl, rfl⟩
abbrev csstok_first_q1 (mL : Int) (o : TSToken) : AExit → St → Prop := AThen (Sv Tryd.prog (GG mL) 0 a27_c5 (Ends a27.results 0 (csstok_first_post o))) (Ends a27.results 0 (csstok_first_post o))
noncomputable def csstok_first_j4 (r_11 : TSToken) (t0 : Int) (t1 : (List UInt8)) : Option TSToken :=
  some (⟨t0, t1, r_11.Value, r_11.Num⟩ : TSToken)
theorem csstok_first_j4_ok {mL : Int} {r_11 : TSToken} {t0 : Int} {t1 : (List UInt8)} {o : TSToken} (h : csstok_first_j4 r_11 t0 t1 = some o) :
    Sv Tryd.prog (GG mL) 0 a27_c4 (csstok_first_q1 mL o) ⟨(upd (upd (fun _ => none) 2 (some (.c (.ref 0 4 0 0)))) 11 (some (.c (.ref 1 4 0 0)))), (upd (upd (fun _ => none) 0 (some (.cells 4 [[cI 0, .str [], .str [], cI 0]]))) 1 (some (.cells 4 [[cI t0, .str t1, .str r_11.Value, cI r_11.Num]]))), 2⟩ := by
  unfold csstok_first_j4 at h
  refine Sv.seq ?_
  refine Sv.region ?_
  refine un (a1 (v := (.agg [cI t0, .str t1, .str r_11.Value, cI r_11.Num])) rfl ?_)
  refine un (a2n (h' := upd _ 0 (some (.cells 4 [[cI t0, .str t1, .str r_11.Value, cI r_11.Num]]))) (n' := 2) rfl rfl (fun h => by cases h) ?_)
  refine dnil ?_
  refine Sv.ret ?_
  replace h := Option.some.inj h
  subst h
  exact ⟨_, .refl _, _, rfl, ⟨upd (fun _ => none) 0 (some (.agg [cI t0, .str t1, .str r_11.Value, cI r_11.Num])), (fun _ => none), 0⟩, (.agg [cI t0, .str t1, .str r_11.Value, cI r_11.Num]), weak_canon [] rfl List.nodup_nil (Nat.le_refl _) (fun b h => absurd h (Nat.not_lt_zero _)) (.cons rfl (avAs_free rfl) .nil) .nil, rfl, rfl, rfl, rfl⟩
abbrev csstok_first_q2 (mL : Int) (o : TSToken) : AExit → St → Prop := AThen (Sv Tryd.prog (GG mL) 0 a27_c8 (Ends a27.results 0 (csstok_first_post o))) (Ends a27.results 0 (csstok_first_post o))
abbrev csstok_first_q3 (mL : Int) (o : TSToken) : AExit → St → Prop := ABlock 1 (csstok_first_q2 mL o)
noncomputable def csstok_first_j6 (s_ : (List UInt8)) (c_1 : UInt8) (v120 : Bool) : Option TSToken :=
  if v120 then
    (csstok_first_fn1 11 s_).bind fun r_16 =>
    some r_16
  else
    if decide ((c_1.toNat : Int) = 92) then
      (csstok_first_fn1 6 s_).bind fun r_17 =>
      some r_17
    else
      (csstok_first_fn1 12 s_).bind fun r_18 =>
      some r_18
theorem csstok_first_j6_ok {mL : Int} {s_ : (List UInt8)} {c_1 : UInt8} {v120 : Bool} {o : TSToken} (h : csstok_first_j6 s_ c_1 v120 = some o) :
    Sv Tryd.prog (GG mL) 0 a27_c7 (csstok_first_q3 mL o) ⟨(upd (upd (upd (upd (fun _ => none) 2 (some (.c (.ref 0 4 0 0)))) 3 (some (.c (.fn (.func 41) [] [.ref 1 1 0 0])))) 113 (some (.c (.val (.int .u8 (c_1.toNat : Int)))))) 120 (some (B v120))), (upd (upd (fun _ => none) 0 (some (.cells 4 [[cI 0, .str [], .str [], cI 0]]))) 1 (some (.cells 1 [[.str s_]]))), 2⟩ := by
  unfold csstok_first_j6 at h
  refine Sv.cond (b := v120) rfl (fun hc12 => ?_) (fun hc12 => ?_)
  · replace h := ifT hc12 h
    refine Sv.seq ?_
    refine Sv.region ?_
    refine un (a1 rfl ?_)
    obtain ⟨r_16, hr13, h⟩ := bnd h
    refine un (acv_gen (bs := []) («as» := [(I 11), (.c (.rop [.str s_]))]) (h2 := (upd _ 1 none)) (h1 := (fun _ => none)) rfl (by kernel_rfl) (csstok_first_fn1_ok hr13) rfl (.cons (avAs_free rfl) (.cons (.c (ref_ro rfl (gone rfl) (.cons (.same rfl) .nil) rfl)) .nil)) (hsub_none (hsub_refl _)) (.nil _) (fun _ => rfl) (by decide) (by decide) (.cons (avAs_free rfl) (.cons (avAs_free rfl) .nil)) .nil ?_)
    rintro _ _ _ hn ⟨rfl, rfl, rfl⟩
    refine ⟨.inr ⟨rfl, .nil⟩, (rem [] _), fun hbd => (m3_rem (in_nil _) (.nil) hbd), (.agg [cI r_16.Kind, .str r_16.Raw, .str r_16.Value, cI r_16.Num]), 2, rfl, rfl, ?_⟩
    refine un (a2n (h' := upd _ 0 (some (.cells 4 [[cI r_16.Kind, .str r_16.Raw, .str r_16.Value, cI r_16.Num]]))) (n' := 2) rfl rfl (fun h => by cases h) ?_)
    refine dnil ?_
    refine Sv.ret ?_
    replace h := Option.some.inj h
    subst h
    exact ⟨_, .refl _, _, rfl, ⟨upd (fun _ => none) 0 (some (.agg [cI r_16.Kind, .str r_16.Raw, .str r_16.Value, cI r_16.Num])), (fun _ => none), 0⟩, (.agg [cI r_16.Kind, .str r_16.Raw, .str r_16.Value, cI r_16.Num]), weak_canon [] rfl List.nodup_nil (Nat.le_refl _) (fun b h => absurd h (Nat.not_lt_zero _)) (.cons rfl (avAs_free rfl) .nil) .nil, rfl, rfl, rfl, rfl⟩
  · replace h := ifF hc12 h
    refine Sv.seq ?_
    refine Sv.region ?_
    refine un (a1 (v := (B (decide ((c_1.toNat : Int) = 92)))) rfl ?_)
    refine un (a1 rfl ?_)
    refine dnil ?_
    refine Sv.cond (b := decide ((c_1.toNat : Int) = 92)) rfl (fun hc13 => ?_) (fun hc13 => ?_)
    · replace h := ifT hc13 h
      refine Sv.seq ?_
      refine Sv.region ?_
      refine un (a1 rfl ?_)
      obtain ⟨r_17, hr14, h⟩ := bnd h
      refine un (acv_gen (bs := []) («as» := [(I 6), (.c (.rop [.str s_]))]) (h2 := (upd _ 1 none)) (h1 := (fun _ => none)) rfl (by kernel_rfl) (csstok_first_fn1_ok hr14) rfl (.cons (avAs_free rfl) (.cons (.c (ref_ro rfl (gone rfl) (.cons (.same rfl) .nil) rfl)) .nil)) (hsub_none (hsub_refl _)) (.nil _) (fun _ => rfl) (by decide) (by decide) (.cons (avAs_free rfl) (.cons (avAs_free rfl) .nil)) .nil ?_)
      rintro _ _ _ hn ⟨rfl, rfl, rfl⟩
      refine ⟨.inr ⟨rfl, .nil⟩, (rem [] _), fun hbd => (m3_rem (in_nil _) (.nil) hbd), (.agg [cI r_17.Kind, .str r_17.Raw, .str r_17.Value, cI r_17.Num]), 2, rfl, rfl, ?_⟩
      refine un (a2n (h' := upd _ 0 (some (.cells 4 [[cI r_17.Kind, .str r_17.Raw, .str r_17.Value, cI r_17.Num]]))) (n' := 2) rfl rfl (fun h => by cases h) ?_)
      refine dnil ?_
      refine Sv.ret ?_
      replace h := Option.some.inj h
      subst h
      exact ⟨_, .refl _, _, rfl, ⟨upd (fun _ => none) 0 (some (.agg [cI r_17.Kind, .str r_17.Raw, .str r_17.Value, cI r_17.Num])), (fun _ => none), 0⟩, (.agg [cI r_17.Kind, .str r_17.Raw, .str r_17.Value, cI r_17.Num]), weak_canon [] rfl List.nodup_nil (Nat.le_refl _) (fun b h => absurd h (Nat.not_lt_zero _)) (.cons rfl (avAs_free rfl) .nil) .nil, rfl, rfl, rfl, rfl⟩
    · replace h := ifF hc13 h
      refine Sv.skip ?_
      refine Sv.seq ?_
      refine Sv.region ?_
      refine un (a1 rfl ?_)
      obtain ⟨r_18, hr15, h⟩ := bnd h
      refine un (acv_gen (bs := []) («as» := [(I 12), (.c (.rop [.str s_]))]) (h2 := (upd _ 1 none)) (h1 := (fun _ => none)) rfl (by kernel_rfl) (csstok_first_fn1_ok hr15) rfl (.cons (avAs_free rfl) (.cons (.c (ref_ro rfl (gone rfl) (.cons (.same rfl) .nil) rfl)) .nil)) (hsub_none (hsub_refl _)) (.nil _) (fun _ => rfl) (by decide) (by decide) (.cons (avAs_free rfl) (.cons (avAs_free rfl) .nil)) .nil ?_)
      rintro _ _ _ hn ⟨rfl, rfl, rfl⟩
      refine ⟨.inr ⟨rfl, .nil⟩, (rem [] _), fun hbd => (m3_rem (in_nil _) (.nil) hbd), (.agg [cI r_18.Kind, .str r_18.Raw, .str r_18.Value, cI r_18.Num]), 2, rfl, rfl, ?_⟩
      refine un (a2n (h' := upd _ 0 (some (.cells 4 [[cI r_18.Kind, .str r_18.Raw, .str r_18.Value, cI r_18.Num]]))) (n' := 2) rfl rfl (fun h => by cases h) ?_)
      refine dnil ?_
      refine Sv.ret ?_
      replace h := Option.some.inj h
      subst h
      exact ⟨_, .refl _, _, rfl, ⟨upd (fun _ => none) 0 (some (.agg [cI r_18.Kind, .str r_18.Raw, .str r_18.Value, cI r_18.Num])), (fun _ => none), 0⟩, (.agg [cI r_18.Kind, .str r_18.Raw, .str r_18.Value, cI r_18.Num]), weak_canon [] rfl List.nodup_nil (Nat.le_refl _) (fun b h => absurd h (Nat.not_lt_zero _)) (.cons rfl (avAs_free rfl) .nil) .nil, rfl, rfl, rfl, rfl⟩
noncomputable def csstok_first_j5 (s_ : (List UInt8)) (c_1 : UInt8) (v114 : Bool) : Option TSToken :=
  if v114 then
    (csstok_first_fn1 10 s_).bind fun r_15 =>
    some r_15
  else
    if decide ((c_1.toNat : Int) = 41) then
      csstok_first_j6 s_ c_1 (decide ((c_1.toNat : Int) = 41))
    else
      if decide ((c_1.toNat : Int) = 93) then
        csstok_first_j6 s_ c_1 (decide ((c_1.toNat : Int) = 93))
      else
        csstok_first_j6 s_ c_1 (decide ((c_1.toNat : Int) = 125))
theorem csstok_first_j5_ok {mL : Int} {s_ : (List UInt8)} {c_1 : UInt8} {v114 : Bool} {o : TSToken} (h : csstok_first_j5 s_ c_1 v114 = some o) :
    Sv Tryd.prog (GG mL) 0 a27_c6 (csstok_first_q3 mL o) ⟨(upd (upd (upd (upd (fun _ => none) 2 (some (.c (.ref 0 4 0 0)))) 3 (some (.c (.fn (.func 41) [] [.ref 1 1 0 0])))) 113 (some (.c (.val (.int .u8 (c_1.toNat : Int)))))) 114 (some (B v114))), (upd (upd (fun _ => none) 0 (some (.cells 4 [[cI 0, .str [], .str [], cI 0]]))) 1 (some (.cells 1 [[.str s_]]))), 2⟩ := by
  unfold csstok_first_j5 at h
  refine Sv.cond (b := v114) rfl (fun hc11 => ?_) (fun hc11 => ?_)
  · replace h := ifT hc11 h
    refine Sv.seq ?_
    refine Sv.region ?_
    refine un (a1 rfl ?_)
    obtain ⟨r_15, hr12, h⟩ := bnd h
    refine un (acv_gen (bs := []) («as» := [(I 10), (.c (.rop [.str s_]))]) (h2 := (upd _ 1 none)) (h1 := (fun _ => none)) rfl (by kernel_rfl) (csstok_first_fn1_ok hr12) rfl (.cons (avAs_free rfl) (.cons (.c (ref_ro rfl (gone rfl) (.cons (.same rfl) .nil) rfl)) .nil)) (hsub_none (hsub_refl _)) (.nil _) (fun _ => rfl) (by decide) (by decide) (.cons (avAs_free rfl) (.cons (avAs_free rfl) .nil)) .nil ?_)
    rintro _ _ _ hn ⟨rfl, rfl, rfl⟩
    refine ⟨.inr ⟨rfl, .nil⟩, (rem [] _), fun hbd => (m3_rem (in_nil _) (.nil) hbd), (.agg [cI r_15.Kind, .str r_15.Raw, .str r_15.Value, cI r_15.Num]), 2, rfl, rfl, ?_⟩
    refine un (a2n (h' := upd _ 0 (some (.cells 4 [[cI r_15.Kind, .str r_15.Raw, .str r_15.Value, cI r_15.Num]]))) (n' := 2) rfl rfl (fun h => by cases h) ?_)
    refine dnil ?_
    refine Sv.ret ?_
    replace h := Option.some.inj h
    subst h
    exact ⟨_, .refl _, _, rfl, ⟨upd (fun _ => none) 0 (some (.agg [cI r_15.Kind, .str r_15.Raw, .str r_15.Value, cI r_15.Num])), (fun _ => none), 0⟩, (.agg [cI r_15.Kind, .str r_15.Raw, .str r_15.Value, cI r_15.Num]), weak_canon [] rfl List.nodup_nil (Nat.le_refl _) (fun b h => absurd h (Nat.not_lt_zero _)) (.cons rfl (avAs_free rfl) .nil) .nil, rfl, rfl, rfl, rfl⟩
  · replace h := ifF hc11 h
    refine Sv.seq ?_
    refine Sv.seq ?_
    refine Sv.region ?_
    refine un (a1 (v := (B (decide ((c_1.toNat : Int) = 41)))) rfl ?_)
    refine un (a1 rfl ?_)
    refine dnil ?_
    refine Sv.cond (b := decide ((c_1.toNat : Int) = 41)) rfl (fun hc14 => ?_) (fun hc14 => ?_)
    · replace h := ifT hc14 h
      refine Sv.skip ?_
      exact Sv.weak (weak_canon [0, 1] rfl (by decide) (by decide) (fun b h => absurd h (Nat.not_lt_zero _)) (.cons rfl (avAs_free rfl) (.cons rfl (avAs_free rfl) (.cons rfl (.c (fn_as .nil (.cons (.ref rfl (by decide)) .nil))) (.cons rfl (.c (.ref rfl (by decide))) .nil)))) (.box (by decide) rfl (blkAs_cells (.cons (.same rfl) .nil)) (.box (by decide) rfl (blkAs_cells (.cons (.same rfl) (.cons (.same rfl) (.cons (.same rfl) (.cons (.same rfl) .nil))))) .nil))) (csstok_first_j6_ok h)
    · replace h := ifF hc14 h
      refine Sv.seq ?_
      refine Sv.region ?_
      refine un (a1 (v := (B (decide ((c_1.toNat : Int) = 93)))) rfl ?_)
      refine un (a1 rfl ?_)
      refine dnil ?_
      refine Sv.cond (b := decide ((c_1.toNat : Int) = 93)) rfl (fun hc15 => ?_) (fun hc15 => ?_)
      · replace h := ifT hc15 h
        refine Sv.skip ?_
        exact Sv.weak (weak_canon [0, 1] rfl (by decide) (by decide) (fun b h => absurd h (Nat.not_lt_zero _)) (.cons rfl (avAs_free rfl) (.cons rfl (avAs_free rfl) (.cons rfl (.c (fn_as .nil (.cons (.ref rfl (by decide)) .nil))) (.cons rfl (.c (.ref rfl (by decide))) .nil)))) (.box (by decide) rfl (blkAs_cells (.cons (.same rfl) .nil)) (.box (by decide) rfl (blkAs_cells (.cons (.same rfl) (.cons (.same rfl) (.cons (.same rfl) (.cons (.same rfl) .nil))))) .nil))) (csstok_first_j6_ok h)
      · replace h := ifF hc15 h
        refine Sv.region ?_
        refine un (a1 (v := (B (decide ((c_1.toNat : Int) = 125)))) rfl ?_)
        refine un (a1 rfl ?_)
        refine dnil ?_
        exact Sv.weak (weak_canon [0, 1] rfl (by decide) (by decide) (fun b h => absurd h (Nat.not_lt_zero _)) (.cons rfl (avAs_free rfl) (.cons rfl (avAs_free rfl) (.cons rfl (.c (fn_as .nil (.cons (.ref rfl (by decide)) .nil))) (.cons rfl (.c (.ref rfl (by decide))) .nil)))) (.box (by decide) rfl (blkAs_cells (.cons (.same rfl) .nil)) (.box (by decide) rfl (blkAs_cells (.cons (.same rfl) (.cons (.same rfl) (.cons (.same rfl) (.cons (.same rfl) .nil))))) .nil))) (csstok_first_j6_ok h)
abbrev csstok_first_q4 (mL : Int) (o : TSToken) : AExit → St → Prop := AThen (Sv Tryd.prog (GG mL) 0 a27_c9 (Ends a27.results 0 (csstok_first_post o))) (Ends a27.results 0 (csstok_first_post o))
abbrev csstok_first_q5 (mL : Int) (o : TSToken) : AExit → St → Prop := ABlock 0 (csstok_first_q4 mL o)
noncomputable def csstok_first_j3 (s_ : (List UInt8)) (v73 : Bool) : Option TSToken :=
  if v73 then
    (csstok_named 3 s_ 1).bind fun r_7 =>
    some r_7
  else
    (csstok_Number s_).bind fun r_8 =>
    if decide (0 < r_8.2) then
      (csstok_number s_ r_8.1 r_8.2).bind fun r_9 =>
      some r_9
    else
      (csstok_begins s_).bind fun r_10 =>
      if r_10 then
        (csstok_named 1 s_ 0).bind fun r_11 =>
        (sub? s_ (r_11.Raw.length : Int) (s_.length : Int)).bind fun r_12 =>
        (strings_HasPrefix r_12 [40]).bind fun r_13 =>
        if r_13 then
          (sub? s_ 0 (wi ((r_11.Raw.length : Int) + 1))).bind fun r_14 =>
          csstok_first_j4 r_11 2 r_14
        else
          csstok_first_j4 r_11 r_11.Kind r_11.Raw
      else
        (at? s_ 0).bind fun c_1 =>
        if decide ((c_1.toNat : Int) = 40) then
          csstok_first_j5 s_ c_1 (decide ((c_1.toNat : Int) = 40))
        else
          if decide ((c_1.toNat : Int) = 91) then
            csstok_first_j5 s_ c_1 (decide ((c_1.toNat : Int) = 91))
          else
            csstok_first_j5 s_ c_1 (decide ((c_1.toNat : Int) = 123))
theorem csstok_first_j3_ok {mL : Int} {s_ : (List UInt8)} {v73 : Bool} {o : TSToken} (h : csstok_first_j3 s_ v73 = some o) :
    Sv Tryd.prog (GG mL) 0 a27_c3 (csstok_first_q5 mL o) ⟨(upd (upd (upd (upd (fun _ => none) 1 (some (.c (.ref 0 1 0 0)))) 2 (some (.c (.ref 1 4 0 0)))) 3 (some (.c (.fn (.func 41) [] [.ref 0 1 0 0])))) 73 (some (B v73))), (upd (upd (fun _ => none) 0 (some (.cells 1 [[.str s_]]))) 1 (some (.cells 4 [[cI 0, .str [], .str [], cI 0]]))), 2⟩ := by
  unfold csstok_first_j3 at h
  refine Sv.cond (b := v73) rfl (fun hc7 => ?_) (fun hc7 => ?_)
  · replace h := ifT hc7 h
    refine Sv.seq ?_
    refine Sv.region ?_
    refine un (a1 (v := (S s_)) rfl ?_)
    obtain ⟨r_7, hr6, h⟩ := bnd h
    refine un (ac_pure (csstok_named_ok hr6) rfl rfl rfl ?_)
    refine un (a2n (h' := upd _ 1 (some (.cells 4 [[cI r_7.Kind, .str r_7.Raw, .str r_7.Value, cI r_7.Num]]))) (n' := 2) rfl rfl (fun h => by cases h) ?_)
    refine dnil ?_
    refine Sv.ret ?_
    replace h := Option.some.inj h
    subst h
    exact ⟨_, .refl _, _, rfl, ⟨upd (fun _ => none) 0 (some (.agg [cI r_7.Kind, .str r_7.Raw, .str r_7.Value, cI r_7.Num])), (fun _ => none), 0⟩, (.agg [cI r_7.Kind, .str r_7.Raw, .str r_7.Value, cI r_7.Num]), weak_canon [] rfl List.nodup_nil (Nat.le_refl _) (fun b h => absurd h (Nat.not_lt_zero _)) (.cons rfl (avAs_free rfl) .nil) .nil, rfl, rfl, rfl, rfl⟩
  · replace h := ifF hc7 h
    refine Sv.skip ?_
    refine Sv.seq ?_
    refine Sv.seq ?_
    refine Sv.region ?_
    refine un (a1 (v := (S s_)) rfl ?_)
    obtain ⟨r_8, hr7, h⟩ := bnd h
    refine un (ac_pure (csstok_Number_ok hr7) rfl rfl rfl ?_)
    refine un (a1 rfl ?_)
    refine un (a1 (v := (I r_8.1)) rfl ?_)
    refine un (a1 (v := (I r_8.2)) rfl ?_)
    refine un (a1 rfl ?_)
    refine un (a1 rfl ?_)
    refine dnil ?_
    refine Sv.seq ?_
    refine Sv.region ?_
    refine un (a1 rfl ?_)
    refine un (a1 (v := (B (decide (0 < r_8.2)))) rfl ?_)
    refine dnil ?_
    refine Sv.cond (b := decide (0 < r_8.2)) rfl (fun hc8 => ?_) (fun hc8 => ?_)
    · replace h := ifT hc8 h
      refine Sv.seq ?_
      refine Sv.region ?_
      refine un (a1 (v := (S s_)) rfl ?_)
      refine un (a1 rfl ?_)
      refine un (a1 rfl ?_)
      obtain ⟨r_9, hr8, h⟩ := bnd h
      refine un (ac_pure (csstok_number_ok hr8) rfl rfl rfl ?_)
      refine un (a2n (h' := upd _ 1 (some (.cells 4 [[cI r_9.Kind, .str r_9.Raw, .str r_9.Value, cI r_9.Num]]))) (n' := 2) rfl rfl (fun h => by cases h) ?_)
      refine dnil ?_
      refine Sv.ret ?_
      replace h := Option.some.inj h
      subst h
      exact ⟨_, .refl _, _, rfl, ⟨upd (fun _ => none) 0 (some (.agg [cI r_9.Kind, .str r_9.Raw, .str r_9.Value, cI r_9.Num])), (fun _ => none), 0⟩, (.agg [cI r_9.Kind, .str r_9.Raw, .str r_9.Value, cI r_9.Num]), weak_canon [] rfl List.nodup_nil (Nat.le_refl _) (fun b h => absurd h (Nat.not_lt_zero _)) (.cons rfl (avAs_free rfl) .nil) .nil, rfl, rfl, rfl, rfl⟩
    · replace h := ifF hc8 h
      refine Sv.skip ?_
      refine Sv.seq ?_
      refine Sv.seq ?_
      refine Sv.region ?_
      refine un (a1 (v := (S s_)) rfl ?_)
      obtain ⟨r_10, hr9, h⟩ := bnd h
      refine un (ac_pure (csstok_begins_ok hr9) rfl rfl rfl ?_)
      refine dnil ?_
      refine Sv.cond (b := r_10) rfl (fun hc9 => ?_) (fun hc9 => ?_)
      · replace h := ifT hc9 h
        refine Sv.seq ?_
        refine Sv.region ?_
        refine un (a1 (v := (S s_)) rfl ?_)
        obtain ⟨r_11, hr10, h⟩ := bnd h
        refine un (ac_pure (csstok_named_ok hr10) rfl rfl rfl ?_)
        refine un (a2v (v := (.c (.ref 2 4 0 0))) (h' := upd _ 2 (some (.cells 4 [[cI 0, .str [], .str [], cI 0]]))) (n' := 3) rfl rfl (fun h => by cases h) ?_)
        refine un (a2n (h' := upd _ 2 (some (.cells 4 [[cI r_11.Kind, .str r_11.Raw, .str r_11.Value, cI r_11.Num]]))) (n' := 3) rfl rfl (fun h => by cases h) ?_)
        refine dnil ?_
        refine Sv.seq ?_
        refine Sv.seq ?_
        refine Sv.region ?_
        refine un (a1 (v := (.c (.ref 2 4 0 1))) rfl ?_)
        refine un (a1 (v := (S r_11.Raw)) rfl ?_)
        refine un (a1 (v := (I (r_11.Raw.length : Int))) rfl ?_)
        refine un (a1 rfl ?_)
        refine dnil ?_
        refine Sv.seq ?_
        refine Sv.region ?_
        refine un (a1 (v := (S s_)) rfl ?_)
        refine un (a1 rfl ?_)
        obtain ⟨r_12, hx4, h⟩ := bnd h
        refine un (a1 (v := (S r_12)) (s_slStr rfl rfl rfl hx4) ?_)
        obtain ⟨r_13, hr11, h⟩ := bnd h
        refine un (ac_pure (strings_HasPrefix_ok hr11) rfl rfl rfl ?_)
        refine dnil ?_
        refine Sv.cond (b := r_13) rfl (fun hc10 => ?_) (fun hc10 => ?_)
        · replace h := ifT hc10 h
          refine Sv.drawn2 ?_
          refine un (a1 rfl ?_)
          refine un (a1 (v := (I (wi ((r_11.Raw.length : Int) + 1)))) rfl ?_)
          refine un (a1 (v := (.c (.ref 2 4 0 0))) rfl ?_)
          refine dnil ?_
          refine ⟨?_, ?_⟩
          · refine un (a1 (v := (S s_)) rfl ?_)
            obtain ⟨r_14, hx5, h⟩ := bnd h
            refine un (a1 (v := (S r_14)) (s_slStr rfl rfl rfl hx5) ?_)
            refine un (a2n (h' := upd _ 2 (some (.cells 4 [[cI 2, .str r_11.Raw, .str r_11.Value, cI r_11.Num]]))) (n' := 3) rfl rfl (fun h => by cases h) ?_)
            refine un (a1 (v := (.c (.ref 2 4 0 1))) rfl ?_)
            refine un (a2n (h' := upd _ 2 (some (.cells 4 [[cI 2, .str r_14, .str r_11.Value, cI r_11.Num]]))) (n' := 3) rfl rfl (fun h => by cases h) ?_)
            refine dnil ?_
            exact Sv.weak (weak_canon [1, 2] rfl (by decide) (by decide) (fun b h => absurd h (Nat.not_lt_zero _)) (.cons rfl (.c (.ref rfl (by decide))) (.cons rfl (.c (.ref rfl (by decide))) .nil)) (.box (by decide) rfl (blkAs_cells (.cons (.same rfl) (.cons (.same rfl) (.cons (.same rfl) (.cons (.same rfl) .nil))))) (.box (by decide) rfl (blkAs_cells (.cons (.same rfl) (.cons (.same rfl) (.cons (.same rfl) (.cons (.same rfl) .nil))))) .nil))) (csstok_first_j4_ok h)
          · refine un (a2n (h' := upd _ 2 (some (.cells 4 [[cI 2, .str r_11.Raw, .str r_11.Value, cI r_11.Num]]))) (n' := 3) rfl rfl (fun h => by cases h) ?_)
            refine un (a1 (v := (S s_)) rfl ?_)
            obtain ⟨r_14, hx5, h⟩ := bnd h
            refine un (a1 (v := (S r_14)) (s_slStr rfl rfl rfl hx5) ?_)
            refine un (a1 (v := (.c (.ref 2 4 0 1))) rfl ?_)
            refine un (a2n (h' := upd _ 2 (some (.cells 4 [[cI 2, .str r_14, .str r_11.Value, cI r_11.Num]]))) (n' := 3) rfl rfl (fun h => by cases h) ?_)
            refine dnil ?_
            exact Sv.weak (weak_canon [1, 2] rfl (by decide) (by decide) (fun b h => absurd h (Nat.not_lt_zero _)) (.cons rfl (.c (.ref rfl (by decide))) (.cons rfl (.c (.ref rfl (by decide))) .nil)) (.box (by decide) rfl (blkAs_cells (.cons (.same rfl) (.cons (.same rfl) (.cons (.same rfl) (.cons (.same rfl) .nil))))) (.box (by decide) rfl (blkAs_cells (.cons (.same rfl) (.cons (.same rfl) (.cons (.same rfl) (.cons (.same rfl) .nil))))) .nil))) (csstok_first_j4_ok h)
        · replace h := ifF hc10 h
          refine Sv.skip ?_
          exact Sv.weak (weak_canon [1, 2] rfl (by decide) (by decide) (fun b h => absurd h (Nat.not_lt_zero _)) (.cons rfl (.c (.ref rfl (by decide))) (.cons rfl (.c (.ref rfl (by decide))) .nil)) (.box (by decide) rfl (blkAs_cells (.cons (.same rfl) (.cons (.same rfl) (.cons (.same rfl) (.cons (.same rfl) .nil))))) (.box (by decide) rfl (blkAs_cells (.cons (.same rfl) (.cons (.same rfl) (.cons (.same rfl) (.cons (.same rfl) .nil))))) .nil))) (csstok_first_j4_ok h)
      · replace h := ifF hc9 h
        refine Sv.skip ?_
        refine Sv.seq ?_
        refine Sv.seq ?_
        refine Sv.region ?_
        refine un (a1 (v := (S s_)) rfl ?_)
        obtain ⟨c_1, hx6, h⟩ := bnd h
        refine un (a1 (v := (.c (.val (.int .u8 (c_1.toNat : Int))))) (s_idxS rfl rfl hx6) ?_)
        refine dnil ?_
        refine Sv.block ?_
        refine Sv.seq ?_
        refine Sv.seq ?_
        refine Sv.region ?_
        refine un (a1 (v := (B (decide ((c_1.toNat : Int) = 40)))) rfl ?_)
        refine un (a1 rfl ?_)
        refine dnil ?_
        refine Sv.cond (b := decide ((c_1.toNat : Int) = 40)) rfl (fun hc16 => ?_) (fun hc16 => ?_)
        · replace h := ifT hc16 h
          refine Sv.skip ?_
          exact Sv.weak (weak_canon [1, 0] rfl (by decide) (by decide) (fun b h => absurd h (Nat.not_lt_zero _)) (.cons rfl (avAs_free rfl) (.cons rfl (avAs_free rfl) (.cons rfl (.c (fn_as .nil (.cons (.ref rfl (by decide)) .nil))) (.cons rfl (.c (.ref rfl (by decide))) .nil)))) (.box (by decide) rfl (blkAs_cells (.cons (.same rfl) .nil)) (.box (by decide) rfl (blkAs_cells (.cons (.same rfl) (.cons (.same rfl) (.cons (.same rfl) (.cons (.same rfl) .nil))))) .nil))) (csstok_first_j5_ok h)
        · replace h := ifF hc16 h
          refine Sv.seq ?_
          refine Sv.region ?_
          refine un (a1 (v := (B (decide ((c_1.toNat : Int) = 91)))) rfl ?_)
          refine un (a1 rfl ?_)
          refine dnil ?_
          refine Sv.cond (b := decide ((c_1.toNat : Int) = 91)) rfl (fun hc17 => ?_) (fun hc17 => ?_)
          · replace h := ifT hc17 h
            refine Sv.skip ?_
            exact Sv.weak (weak_canon [1, 0] rfl (by decide) (by decide) (fun b h => absurd h (Nat.not_lt_zero _)) (.cons rfl (avAs_free rfl) (.cons rfl (avAs_free rfl) (.cons rfl (.c (fn_as .nil (.cons (.ref rfl (by decide)) .nil))) (.cons rfl (.c (.ref rfl (by decide))) .nil)))) (.box (by decide) rfl (blkAs_cells (.cons (.same rfl) .nil)) (.box (by decide) rfl (blkAs_cells (.cons (.same rfl) (.cons (.same rfl) (.cons (.same rfl) (.cons (.same rfl) .nil))))) .nil))) (csstok_first_j5_ok h)
          · replace h := ifF hc17 h
            refine Sv.region ?_
            refine un (a1 (v := (B (decide ((c_1.toNat : Int) = 123)))) rfl ?_)
            refine un (a1 rfl ?_)
            refine dnil ?_
            exact Sv.weak (weak_canon [1, 0] rfl (by decide) (by decide) (fun b h => absurd h (Nat.not_lt_zero _)) (.cons rfl (avAs_free rfl) (.cons rfl (avAs_free rfl) (.cons rfl (.c (fn_as .nil (.cons (.ref rfl (by decide)) .nil))) (.cons rfl (.c (.ref rfl (by decide))) .nil)))) (.box (by decide) rfl (blkAs_cells (.cons (.same rfl) .nil)) (.box (by decide) rfl (blkAs_cells (.cons (.same rfl) (.cons (.same rfl) (.cons (.same rfl) (.cons (.same rfl) .nil))))) .nil))) (csstok_first_j5_ok h)
noncomputable def csstok_first_j2 (s_ : (List UInt8)) (c_ : UInt8) (v53 : Bool) : Option TSToken :=
  if v53 then
    (csstok_named 4 s_ 1).bind fun r_6 =>
    some r_6
  else
    if decide ((c_.toNat : Int) = 64) then
      (sub? s_ 1 (s_.length : Int)).bind fun r_19 =>
      (csstok_begins r_19).bind fun r_20 =>
      csstok_first_j3 s_ r_20
    else
      csstok_first_j3 s_ false
theorem csstok_first_j2_ok {mL : Int} {s_ : (List UInt8)} {c_ : UInt8} {v53 : Bool} {o : TSToken} (h : csstok_first_j2 s_ c_ v53 = some o) :
    Sv Tryd.prog (GG mL) 0 a27_c2 (csstok_first_q5 mL o) ⟨(upd (upd (upd (upd (upd (fun _ => none) 1 (some (.c (.ref 0 1 0 0)))) 2 (some (.c (.ref 1 4 0 0)))) 3 (some (.c (.fn (.func 41) [] [.ref 0 1 0 0])))) 8 (some (.c (.val (.int .u8 (c_.toNat : Int)))))) 53 (some (B v53))), (upd (upd (fun _ => none) 0 (some (.cells 1 [[.str s_]]))) 1 (some (.cells 4 [[cI 0, .str [], .str [], cI 0]]))), 2⟩ := by
  unfold csstok_first_j2 at h
  refine Sv.cond (b := v53) rfl (fun hc6 => ?_) (fun hc6 => ?_)
  · replace h := ifT hc6 h
    refine Sv.seq ?_
    refine Sv.region ?_
    refine un (a1 (v := (S s_)) rfl ?_)
    obtain ⟨r_6, hr5, h⟩ := bnd h
    refine un (ac_pure (csstok_named_ok hr5) rfl rfl rfl ?_)
    refine un (a2n (h' := upd _ 1 (some (.cells 4 [[cI r_6.Kind, .str r_6.Raw, .str r_6.Value, cI r_6.Num]]))) (n' := 2) rfl rfl (fun h => by cases h) ?_)
    refine dnil ?_
    refine Sv.ret ?_
    replace h := Option.some.inj h
    subst h
    exact ⟨_, .refl _, _, rfl, ⟨upd (fun _ => none) 0 (some (.agg [cI r_6.Kind, .str r_6.Raw, .str r_6.Value, cI r_6.Num])), (fun _ => none), 0⟩, (.agg [cI r_6.Kind, .str r_6.Raw, .str r_6.Value, cI r_6.Num]), weak_canon [] rfl List.nodup_nil (Nat.le_refl _) (fun b h => absurd h (Nat.not_lt_zero _)) (.cons rfl (avAs_free rfl) .nil) .nil, rfl, rfl, rfl, rfl⟩
  · replace h := ifF hc6 h
    refine Sv.seq ?_
    refine Sv.region ?_
    refine un (a1 rfl ?_)
    refine un (a1 (v := (B (decide ((c_.toNat : Int) = 64)))) rfl ?_)
    refine un (a1 rfl ?_)
    refine split2 (fun hc18 => ?_) (fun hc18 => ?_)
    · replace h := ifT hc18 h
      refine gt rfl (a1 (v := (S s_)) rfl ?_)
      obtain ⟨r_19, hx7, h⟩ := bnd h
      refine gt rfl (a1 (v := (S r_19)) (s_slStr rfl rfl rfl hx7) ?_)
      obtain ⟨r_20, hr16, h⟩ := bnd h
      refine gt rfl (ac_pure (csstok_begins_ok hr16) rfl rfl rfl ?_)
      refine un (a1 (v := (B r_20)) rfl ?_)
      refine un (a1 rfl ?_)
      refine dnil ?_
      exact Sv.weak (weak_canon [0, 1] rfl (by decide) (by decide) (fun b h => absurd h (Nat.not_lt_zero _)) (.cons rfl (avAs_free rfl) (.cons rfl (.c (fn_as .nil (.cons (.ref rfl (by decide)) .nil))) (.cons rfl (.c (.ref rfl (by decide))) (.cons rfl (.c (.ref rfl (by decide))) .nil)))) (.box (by decide) rfl (blkAs_cells (.cons (.same rfl) (.cons (.same rfl) (.cons (.same rfl) (.cons (.same rfl) .nil))))) (.box (by decide) rfl (blkAs_cells (.cons (.same rfl) .nil)) .nil))) (csstok_first_j3_ok h)
    · replace h := ifF hc18 h
      refine gs rfl rfl ?_
      refine gs rfl rfl ?_
      refine gs rfl rfl ?_
      refine un (a1 (v := (B false)) rfl ?_)
      refine un (a1 rfl ?_)
      refine dnil ?_
      exact Sv.weak (weak_canon [0, 1] rfl (by decide) (by decide) (fun b h => absurd h (Nat.not_lt_zero _)) (.cons rfl (avAs_free rfl) (.cons rfl (.c (fn_as .nil (.cons (.ref rfl (by decide)) .nil))) (.cons rfl (.c (.ref rfl (by decide))) (.cons rfl (.c (.ref rfl (by decide))) .nil)))) (.box (by decide) rfl (blkAs_cells (.cons (.same rfl) (.cons (.same rfl) (.cons (.same rfl) (.cons (.same rfl) .nil))))) (.box (by decide) rfl (blkAs_cells (.cons (.same rfl) .nil)) .nil))) (csstok_first_j3_ok h)
/-- clerestory/csstok.first -/
noncomputable def csstok_first (s_ : (List UInt8)) : Option TSToken :=
  (strings_TrimLeft s_ [32, 9, 10, 12, 13]).bind fun r_ =>
  if decide (0 < (wi ((s_.length : Int) - (r_.length : Int)))) then
    (sub? s_ 0 (wi ((s_.length : Int) - (r_.length : Int)))).bind fun r_1 =>
    some (⟨8, r_1, [], 0⟩ : TSToken)
  else
    (strings_CutPrefix s_ [47, 42]).bind fun r_2 =>
    if r_2.2 then
      (strings_Index r_2.1 [42, 47]).bind fun r_3 =>
      if decide (0 ≤ r_3) then
        (sub? s_ 0 (wi (r_3 + 4))).bind fun r_4 =>
        csstok_first_j1 r_4
      else
        csstok_first_j1 s_
    else
      (at? s_ 0).bind fun c_ =>
      if ((decide ((c_.toNat : Int) = 39)) || (decide ((c_.toNat : Int) = 34))) then
        (csstok_text s_).bind fun r_5 =>
        some r_5
      else
        if ((decide ((c_.toNat : Int) = 35)) && (decide (1 < (s_.length : Int)))) then
          (at? s_ 1).bind fun c_2 =>
          if (csstok_sign (c_2.toNat : Int)) then
            csstok_first_j2 s_ c_ true
          else
            (sub? s_ 1 (s_.length : Int)).bind fun r_21 =>
            (csstok_escape r_21).bind fun r_22 =>
            csstok_first_j2 s_ c_ r_22
        else
          csstok_first_j2 s_ c_ false
theorem csstok_first_ok {mL : Int} {s_ : (List UInt8)} {r : TSToken} (h : csstok_first s_ = some r) : CPure Tryd.prog (GG mL) 27 [(S s_)] (.agg [cI r.Kind, .str r.Raw, .str r.Value, cI r.Num]) := by
  refine acalls_of_sv hmix c27 (R := csstok_first_post r) ?_
  unfold csstok_first at h
  refine Sv.seq ?_
  refine Sv.region ?_
  refine un (a2v (v := (.c (.ref 0 1 0 0))) (h' := upd _ 0 (some (.cells 1 [[.str s_]]))) (n' := 1) rfl rfl (fun h => by cases h) ?_)
  refine un (a2v (v := (.c (.ref 1 4 0 0))) (h' := upd _ 1 (some (.cells 4 [[cI 0, .str [], .str [], cI 0]]))) (n' := 2) rfl rfl (fun h => by cases h) ?_)
  refine dnil ?_
  refine Sv.seq ?_
  refine Sv.region ?_
  refine un (a1 (v := (.c (.fn (.func 41) [] [.ref 0 1 0 0]))) rfl ?_)
  refine un (a1 rfl ?_)
  refine dnil ?_
  refine Sv.seq ?_
  refine Sv.seq ?_
  refine Sv.drawn ?_
  refine un (a1 (v := (S s_)) rfl ?_)
  refine un (a1 (v := (I (s_.length : Int))) rfl ?_)
  refine un (a1 (v := (S s_)) rfl ?_)
  obtain ⟨r_, hr1, h⟩ := bnd h
  refine un (ac_pure (strings_TrimLeft_ok hr1) rfl rfl rfl ?_)
  refine un (a1 (v := (I (r_.length : Int))) rfl ?_)
  refine un (a1 (v := (I (wi ((s_.length : Int) - (r_.length : Int))))) rfl ?_)
  refine un (a1 rfl ?_)
  refine dnil ?_
  refine Sv.seq ?_
  refine Sv.region ?_
  refine un (a1 rfl ?_)
  refine un (a1 (v := (B (decide (0 < (wi ((s_.length : Int) - (r_.length : Int))))))) rfl ?_)
  refine dnil ?_
  refine Sv.cond (b := decide (0 < (wi ((s_.length : Int) - (r_.length : Int))))) rfl (fun hc1 => ?_) (fun hc1 => ?_)
  · replace h := ifT hc1 h
    refine Sv.seq ?_
    refine Sv.region ?_
    refine un (a1 (v := (S s_)) rfl ?_)
    refine un (a1 rfl ?_)
    obtain ⟨r_1, hx1, h⟩ := bnd h
    refine un (a1 (v := (S r_1)) (s_slStr rfl rfl rfl hx1) ?_)
    refine un (a1 (v := (.agg [cI 8, .str r_1, .str [], cI 0])) rfl ?_)
    refine un (a2n (h' := upd _ 1 (some (.cells 4 [[cI 8, .str r_1, .str [], cI 0]]))) (n' := 2) rfl rfl (fun h => by cases h) ?_)
    refine dnil ?_
    refine Sv.ret ?_
    replace h := Option.some.inj h
    subst h
    exact ⟨_, .refl _, _, rfl, ⟨upd (fun _ => none) 0 (some (.agg [cI 8, .str r_1, .str [], cI 0])), (fun _ => none), 0⟩, (.agg [cI 8, .str r_1, .str [], cI 0]), weak_canon [] rfl List.nodup_nil (Nat.le_refl _) (fun b h => absurd h (Nat.not_lt_zero _)) (.cons rfl (avAs_free rfl) .nil) .nil, rfl, rfl, rfl, rfl⟩
  · replace h := ifF hc1 h
    refine Sv.skip ?_
    refine Sv.seq ?_
    refine Sv.seq ?_
    refine Sv.region ?_
    refine un (a1 (v := (S s_)) rfl ?_)
    obtain ⟨r_2, hr2, h⟩ := bnd h
    refine un (ac_pure (strings_CutPrefix_ok hr2) rfl rfl rfl ?_)
    refine un (a1 rfl ?_)
    refine un (a1 (v := (S r_2.1)) rfl ?_)
    refine un (a1 (v := (B r_2.2)) rfl ?_)
    refine un (a1 rfl ?_)
    refine un (a1 rfl ?_)
    refine dnil ?_
    refine Sv.seq ?_
    refine Sv.region ?_
    refine un (a1 rfl ?_)
    refine dnil ?_
    refine Sv.cond (b := r_2.2) rfl (fun hc2 => ?_) (fun hc2 => ?_)
    · replace h := ifT hc2 h
      refine Sv.seq ?_
      refine Sv.seq ?_
      refine Sv.region ?_
      refine un (a1 rfl ?_)
      obtain ⟨r_3, hr3, h⟩ := bnd h
      refine un (ac_pure (strings_Index_ok hr3) rfl rfl rfl ?_)
      refine un (a1 rfl ?_)
      refine dnil ?_
      refine Sv.seq ?_
      refine Sv.region ?_
      refine un (a1 rfl ?_)
      refine un (a1 (v := (B (decide (0 ≤ r_3)))) rfl ?_)
      refine dnil ?_
      refine Sv.cond (b := decide (0 ≤ r_3)) rfl (fun hc3 => ?_) (fun hc3 => ?_)
      · replace h := ifT hc3 h
        refine Sv.region ?_
        refine un (a1 (v := (S s_)) rfl ?_)
        refine un (a1 rfl ?_)
        refine un (a1 (v := (I (wi (r_3 + 4)))) rfl ?_)
        obtain ⟨r_4, hx2, h⟩ := bnd h
        refine un (a1 (v := (S r_4)) (s_slStr rfl rfl rfl hx2) ?_)
        refine un (a2n (h' := upd _ 0 (some (.cells 1 [[.str r_4]]))) (n' := 2) rfl rfl (fun h => by cases h) ?_)
        refine dnil ?_
        exact Sv.weak (weak_canon [0, 1] rfl (by decide) (by decide) (fun b h => absurd h (Nat.not_lt_zero _)) (.cons rfl (.c (.ref rfl (by decide))) (.cons rfl (.c (.ref rfl (by decide))) .nil)) (.box (by decide) rfl (blkAs_cells (.cons (.same rfl) (.cons (.same rfl) (.cons (.same rfl) (.cons (.same rfl) .nil))))) (.box (by decide) rfl (blkAs_cells (.cons (.same rfl) .nil)) .nil))) (csstok_first_j1_ok h)
      · replace h := ifF hc3 h
        refine Sv.skip ?_
        exact Sv.weak (weak_canon [0, 1] rfl (by decide) (by decide) (fun b h => absurd h (Nat.not_lt_zero _)) (.cons rfl (.c (.ref rfl (by decide))) (.cons rfl (.c (.ref rfl (by decide))) .nil)) (.box (by decide) rfl (blkAs_cells (.cons (.same rfl) (.cons (.same rfl) (.cons (.same rfl) (.cons (.same rfl) .nil))))) (.box (by decide) rfl (blkAs_cells (.cons (.same rfl) .nil)) .nil))) (csstok_first_j1_ok h)
    · replace h := ifF hc2 h
      refine Sv.skip ?_
      refine Sv.seq ?_
      refine Sv.seq ?_
      refine Sv.region ?_
      refine un (a1 (v := (S s_)) rfl ?_)
      obtain ⟨c_, hx3, h⟩ := bnd h
      refine un (a1 (v := (.c (.val (.int .u8 (c_.toNat : Int))))) (s_idxS rfl rfl hx3) ?_)
      refine un (a1 rfl ?_)
      refine dnil ?_
      refine Sv.block ?_
      refine Sv.seq ?_
      refine Sv.region ?_
      refine un (a1 rfl ?_)
      refine un (a1 (v := (B (decide ((c_.toNat : Int) = 39)))) rfl ?_)
      refine un (a1 rfl ?_)
      refine gjoin 3 (d := 50) (v := (B ((decide ((c_.toNat : Int) = 39)) || (decide ((c_.toNat : Int) = 34))))) (fun X hX => ?_) ?_
      · refine split2 (fun hc4 => ?_) (fun hc4 => ?_)
        · refine gs rfl rfl ?_
          refine gs rfl rfl ?_
          refine un (a1 (v := (B true)) rfl ?_)
          refine dnil ?_
          exact hX _ (.putEq (by rw [hc4]; rfl) (.skip _ _ (.skip _ _ (.putEq (by rw [hc4]) (.refl _)) rfl) rfl))
        · refine gt rfl (a1 rfl ?_)
          refine gt rfl (a1 (v := (B (decide ((c_.toNat : Int) = 34)))) rfl ?_)
          refine un (a1 (v := (B (decide ((c_.toNat : Int) = 34)))) rfl ?_)
          refine dnil ?_
          exact hX _ (.putEq (by rw [hc4]; rfl) (.skip _ _ (.skip _ _ (.putEq (by rw [hc4]) (.refl _)) rfl) rfl))
      refine un (a1 rfl ?_)
      refine dnil ?_
      refine Sv.cond (b := ((decide ((c_.toNat : Int) = 39)) || (decide ((c_.toNat : Int) = 34)))) rfl (fun hc5 => ?_) (fun hc5 => ?_)
      · replace h := ifT hc5 h
        refine Sv.seq ?_
        refine Sv.region ?_
        refine un (a1 (v := (S s_)) rfl ?_)
        obtain ⟨r_5, hr4, h⟩ := bnd h
        refine un (ac_pure (csstok_text_ok hr4) rfl rfl rfl ?_)
        refine un (a2n (h' := upd _ 1 (some (.cells 4 [[cI r_5.Kind, .str r_5.Raw, .str r_5.Value, cI r_5.Num]]))) (n' := 2) rfl rfl (fun h => by cases h) ?_)
        refine dnil ?_
        refine Sv.ret ?_
        replace h := Option.some.inj h
        subst h
        exact ⟨_, .refl _, _, rfl, ⟨upd (fun _ => none) 0 (some (.agg [cI r_5.Kind, .str r_5.Raw, .str r_5.Value, cI r_5.Num])), (fun _ => none), 0⟩, (.agg [cI r_5.Kind, .str r_5.Raw, .str r_5.Value, cI r_5.Num]), weak_canon [] rfl List.nodup_nil (Nat.le_refl _) (fun b h => absurd h (Nat.not_lt_zero _)) (.cons rfl (avAs_free rfl) .nil) .nil, rfl, rfl, rfl, rfl⟩
      · replace h := ifF hc5 h
        refine Sv.seq ?_
        refine Sv.region ?_
        refine un (a1 rfl ?_)
        refine un (a1 (v := (B (decide ((c_.toNat : Int) = 35)))) rfl ?_)
        refine un (a1 rfl ?_)
        refine gjoin 4 (d := 60) (v := (B ((decide ((c_.toNat : Int) = 35)) && (decide (1 < (s_.length : Int)))))) (fun X hX => ?_) ?_
        · refine split2 (fun hc19 => ?_) (fun hc19 => ?_)
          · refine gt rfl (a1 (v := (S s_)) rfl ?_)
            refine gt rfl (a1 (v := (I (s_.length : Int))) rfl ?_)
            refine gt rfl (a1 (v := (B (decide (1 < (s_.length : Int))))) rfl ?_)
            refine un (a1 (v := (B (decide (1 < (s_.length : Int))))) rfl ?_)
            refine dnil ?_
            exact hX _ (.putEq (by rw [hc19]; rfl) (.skip _ _ (.skip _ _ (.skip _ _ (.putEq (by rw [hc19]) (.refl _)) rfl) rfl) rfl))
          · refine gs rfl rfl ?_
            refine gs rfl rfl ?_
            refine gs rfl rfl ?_
            refine un (a1 (v := (B false)) rfl ?_)
            refine dnil ?_
            exact hX _ (.putEq (by rw [hc19]; rfl) (.skip _ _ (.skip _ _ (.skip _ _ (.putEq (by rw [hc19]) (.refl _)) rfl) rfl) rfl))
        refine un (a1 rfl ?_)
        refine split2 (fun hc20 => ?_) (fun hc20 => ?_)
        · replace h := ifT hc20 h
          refine gt rfl (a1 (v := (S s_)) rfl ?_)
          obtain ⟨c_2, hx8, h⟩ := bnd h
          refine gt rfl (a1 (v := (.c (.val (.int .u8 (c_2.toNat : Int))))) (s_idxS rfl rfl hx8) ?_)
          refine gt rfl (ac_pure (csstok_sign_ok (mL := mL) (c_2.toNat : Int)) rfl rfl rfl ?_)
          refine gt rfl (a1 rfl ?_)
          refine split2 (fun hc21 => ?_) (fun hc21 => ?_)
          · replace h := ifT hc21 h
            refine gs rfl rfl ?_
            refine gs rfl rfl ?_
            refine gs rfl rfl ?_
            refine gt rfl (a1 (v := (B true)) rfl ?_)
            refine un (a1 (v := (B true)) rfl ?_)
            refine un (a1 rfl ?_)
            refine dnil ?_
            exact Sv.weak (weak_canon [0, 1] rfl (by decide) (by decide) (fun b h => absurd h (Nat.not_lt_zero _)) (.cons rfl (avAs_free rfl) (.cons rfl (avAs_free rfl) (.cons rfl (.c (fn_as .nil (.cons (.ref rfl (by decide)) .nil))) (.cons rfl (.c (.ref rfl (by decide))) (.cons rfl (.c (.ref rfl (by decide))) .nil))))) (.box (by decide) rfl (blkAs_cells (.cons (.same rfl) (.cons (.same rfl) (.cons (.same rfl) (.cons (.same rfl) .nil))))) (.box (by decide) rfl (blkAs_cells (.cons (.same rfl) .nil)) .nil))) (csstok_first_j2_ok h)
          · replace h := ifF hc21 h
            refine gt rfl (a1 (v := (S s_)) rfl ?_)
            obtain ⟨r_21, hx9, h⟩ := bnd h
            refine gt rfl (a1 (v := (S r_21)) (s_slStr rfl rfl rfl hx9) ?_)
            obtain ⟨r_22, hr17, h⟩ := bnd h
            refine gt rfl (ac_pure (csstok_escape_ok hr17) rfl rfl rfl ?_)
            refine gt rfl (a1 (v := (B r_22)) rfl ?_)
            refine un (a1 (v := (B r_22)) rfl ?_)
            refine un (a1 rfl ?_)
            refine dnil ?_
            exact Sv.weak (weak_canon [0, 1] rfl (by decide) (by decide) (fun b h => absurd h (Nat.not_lt_zero _)) (.cons rfl (avAs_free rfl) (.cons rfl (avAs_free rfl) (.cons rfl (.c (fn_as .nil (.cons (.ref rfl (by decide)) .nil))) (.cons rfl (.c (.ref rfl (by decide))) (.cons rfl (.c (.ref rfl (by decide))) .nil))))) (.box (by decide) rfl (blkAs_cells (.cons (.same rfl) (.cons (.same rfl) (.cons (.same rfl) (.cons (.same rfl) .nil))))) (.box (by decide) rfl (blkAs_cells (.cons (.same rfl) .nil)) .nil))) (csstok_first_j2_ok h)
        · replace h := ifF hc20 h
          refine gs rfl rfl ?_
          refine gs rfl rfl ?_
          refine gs rfl rfl ?_
          refine gs rfl rfl ?_
          refine gu rfl ?_
          refine gu rfl ?_
          refine gu rfl ?_
          refine gs rfl rfl ?_
          refine un (a1 (v := (B false)) rfl ?_)
          refine un (a1 rfl ?_)
          refine dnil ?_
          exact Sv.weak (weak_canon [0, 1] rfl (by decide) (by decide) (fun b h => absurd h (Nat.not_lt_zero _)) (.cons rfl (avAs_free rfl) (.cons rfl (avAs_free rfl) (.cons rfl (.c (fn_as .nil (.cons (.ref rfl (by decide)) .nil))) (.cons rfl (.c (.ref rfl (by decide))) (.cons rfl (.c (.ref rfl (by decide))) .nil))))) (.box (by decide) rfl (blkAs_cells (.cons (.same rfl) (.cons (.same rfl) (.cons (.same rfl) (.cons (.same rfl) .nil))))) (.box (by decide) rfl (blkAs_cells (.cons (.same rfl) .nil)) .nil))) (csstok_first_j2_ok h)
def a17_c0 : ACode := (.seq (.seq (.region [⟨(some 5), (.mov (.tmp 0)), none⟩, ⟨(some 6), (.bin .neq (.tmp 5) (.const (.c (.str [])))), none⟩])
 (.cond (.tmp 6) .skip (.exit 0)))
 (.block 1 (.seq (.region [⟨(some 7), (.mov (.tmp 0)), none⟩, ⟨(some 8), (.call 27 [(.tmp 7)]), none⟩, ⟨(some 4), (.box (.const (.agg [(.val (.int .i64 0)), (.str []), (.str []), (.val (.int .i64 0))]))), none⟩, ⟨none, (.store 4 (.tmp 4) (.tmp 8)), none⟩])
 (.seq (.region [⟨(some 9), (.mov (.tmp 3)), none⟩, ⟨(some 10), (.load true 4 (.tmp 4)), none⟩, ⟨(some 11), (.bslice 4 [(.val (.int .i64 0)), (.str []), (.str []), (.val (.int .i64 0))] 1 [(0, (.tmp 10))]), none⟩, ⟨(some 12), (.app 4 48 (.tmp 9) (.tmp 11)), none⟩, ⟨(some 3), (.mov (.tmp 12)), none⟩])
 (.region [⟨(some 13), (.mov (.tmp 0)), none⟩, ⟨(some 14), (.faddr 1 (.tmp 4)), none⟩, ⟨(some 15), (.load false 1 (.tmp 14)), none⟩, ⟨(some 16), (.lenS (.tmp 15)), none⟩, ⟨(some 17), (.slStr (.tmp 13) (some (.tmp 16)) none), none⟩, ⟨(some 0), (.mov (.tmp 17)), none⟩])))))
def a17 : AFunc := ⟨1, [(.tmp 2)], (.seq (.region [⟨(some 2), (.mov (.const (.c (.ro true 4 [])))), none⟩])
 (.seq (.region [⟨(some 3), (.mov (.const (.c (.ro true 4 [])))), none⟩])
 (.seq (.block 0 (.loop a17_c0))
 (.seq (.region [⟨(some 18), (.mov (.tmp 3)), none⟩, ⟨(some 2), (.mov (.tmp 18)), none⟩])
 .ret))))⟩
set_option maxRecDepth 100000 in
theorem c17 : compFunc Tryd.prog 17 = some a17 := by kernel_rfl
def csstok_Cut_post (r : (List TSToken)) : AV → Heap → Nat → Prop := fun v h' n' => ∃ z0 : Bool, (z0 = true → r = []) ∧ v = (lstV z0 0 4 r.length) ∧ (h' = (upd (fun _ => none) 0 (lstB z0 4 (r.map e_TSToken)))) ∧ n' = 1
abbrev csstok_Cut_l0_E0 (F_ : (List TSToken) → Option (List TSToken)) (o : (List TSToken)) (R_ : St → Prop) : Prop := ∀ (out1 : (List TSToken)) (zout1 : Bool) (_ : zout1 = true → out1 = []), F_ out1 = some o → ∀ s, Weak 0 s ⟨(upd (fun _ => none) 3 (some (lstV zout1 0 4 out1.length))), (upd (fun _ => none) 0 (lstB zout1 4 (out1.map e_TSToken))), 1⟩ → R_ s
abbrev csstok_Cut_l0_I (F_ : Nat → (List UInt8) → (List TSToken) → Option (List TSToken)) (o : (List TSToken)) : Nat → St → Prop := fun k s => ∃ (s_1 : (List UInt8)), ∃ (out : (List TSToken)), ∃ (zout : Bool), (zout = true → out = []) ∧ F_ k s_1 out = some o ∧ s = ⟨(upd (upd (fun _ => none) 0 (some (S s_1))) 3 (some (lstV zout 0 4 out.length))), (upd (fun _ => none) 0 (lstB zout 4 (out.map e_TSToken))), 1⟩
abbrev csstok_Cut_l0_H (F_ : (List UInt8) → (List TSToken) → Option (List TSToken)) (o : (List TSToken)) (R_ : St → Prop) : Prop := ∀ (s_1 : (List UInt8)) (out : (List TSToken)) (zout : Bool) (_ : zout = true → out = []), F_ s_1 out = some o → ∀ s, Weak 0 s ⟨(upd (upd (fun _ => none) 0 (some (S s_1))) 3 (some (lstV zout 0 4 out.length))), (upd (fun _ => none) 0 (lstB zout 4 (out.map e_TSToken))), 1⟩ → R_ s
noncomputable def csstok_Cut_l0 (K0_ : (List TSToken) → Option (List TSToken)) : Nat → (List UInt8) → (List TSToken) → Option (List TSToken)
  | 0, _, _ => none
  | k + 1, s_1, out =>
    if (!decide (s_1 = [])) then
      (csstok_first s_1).bind fun r_ =>
      (app? 48 out [r_]).bind fun r_1 =>
      (sub? s_1 (r_.Raw.length : Int) (s_1.length : Int)).bind fun r_2 =>
      (csstok_Cut_l0 K0_ k) r_2 r_1
    else
      K0_ out
theorem csstok_Cut_l0_ok {mL : Int} {Q : AExit → St → Prop} {K0_ : (List TSToken) → Option (List TSToken)} {k : Nat} {s_1 : (List UInt8)} {out : (List TSToken)} {zout : Bool} (hzout : zout = true → out = []) {o : (List TSToken)} (h : csstok_Cut_l0 K0_ k s_1 out = some o)
    (hK0 : csstok_Cut_l0_E0 K0_ o (Q (.exit 0)))
    (hr : ∀ s, Ends a17.results 0 (csstok_Cut_post o) .ret s → Q .ret s) :
    Sv Tryd.prog (GG mL) 0 (.loop a17_c0) Q ⟨(upd (upd (fun _ => none) 0 (some (S s_1))) 3 (some (lstV zout 0 4 out.length))), (upd (fun _ => none) 0 (lstB zout 4 (out.map e_TSToken))), 1⟩ := by
  refine Sv.loop (I := csstok_Cut_l0_I (csstok_Cut_l0 K0_) o) (fun k s hI => ?_) ⟨s_1, out, zout, hzout, h, rfl⟩
  clear h
  clear hzout zout out s_1
  obtain ⟨s_1, out, zout, hzout, h, rfl⟩ := hI
  cases k with
  | zero => cases h
  | succ k =>
  rw [csstok_Cut_l0] at h
  have hself : csstok_Cut_l0_H (csstok_Cut_l0 K0_ k) o (rnd 0 (csstok_Cut_l0_I (csstok_Cut_l0 K0_) o) k Q) := fun s_1 out zout hzout h s hw => ⟨_, k, hw, Nat.lt_succ_self k, s_1, out, zout, hzout, h, rfl⟩
  refine Sv.seq ?_
  refine Sv.seq ?_
  refine Sv.region ?_
  refine un (a1 rfl ?_)
  refine un (a1 (v := (B (!decide (s_1 = [])))) rfl ?_)
  refine dnil ?_
  refine Sv.cond (b := (!decide (s_1 = []))) rfl (fun hc1 => ?_) (fun hc1 => ?_)
  · replace h := ifT hc1 h
    refine Sv.skip ?_
    refine Sv.block ?_
    refine Sv.seq ?_
    refine Sv.region ?_
    refine un (a1 rfl ?_)
    obtain ⟨r_, hr1, h⟩ := bnd h
    refine un (ac_pure (csstok_first_ok hr1) rfl rfl rfl ?_)
    refine un (a2v (v := (.c (.ref 1 4 0 0))) (h' := upd _ 1 (some (.cells 4 [[cI 0, .str [], .str [], cI 0]]))) (n' := 2) rfl rfl (fun h => by cases h) ?_)
    refine un (a2n (h' := upd _ 1 (some (.cells 4 [[cI r_.Kind, .str r_.Raw, .str r_.Value, cI r_.Num]]))) (n' := 2) rfl rfl (fun h => by cases h) ?_)
    refine dnil ?_
    refine Sv.seq ?_
    refine Sv.region ?_
    refine un (a1 rfl ?_)
    refine un (a1 (v := (.agg [cI r_.Kind, .str r_.Raw, .str r_.Value, cI r_.Num])) rfl ?_)
    refine un (a2v (v := (lstV false 2 4 [r_].length)) (h' := upd _ 2 (lstB false 4 ([r_].map e_TSToken))) (n' := 3) rfl rfl (fun h => by cases h) ?_)
    obtain ⟨r_1, hr2, h⟩ := bnd h
    have hz1 : (zout && [r_].isEmpty) = true → r_1 = [] := app_nil (z := zout) (ys := [r_]) hzout hr2
    refine un (a2v rfl (s_app (xs := out) (ys := [r_]) (e := e_TSToken) (z := zout) (b := 0) rfl rfl hzout rfl rfl (slc_lst rfl (List.length_map _).symm (map_nil_of (fun h => by cases h))) hr2) (fun h => by cases h) ?_)
    refine un (a1 rfl ?_)
    refine dnil ?_
    refine Sv.region ?_
    refine un (a1 rfl ?_)
    refine un (a1 (v := (.c (.ref 1 4 0 1))) rfl ?_)
    refine un (a1 (v := (S r_.Raw)) rfl ?_)
    refine un (a1 (v := (I (r_.Raw.length : Int))) rfl ?_)
    obtain ⟨r_2, hx1, h⟩ := bnd h
    refine un (a1 (v := (S r_2)) (s_slStr rfl rfl rfl hx1) ?_)
    refine un (a1 rfl ?_)
    refine dnil ?_
    exact hself r_2 r_1 (zout && [r_].isEmpty) hz1 h _ (weak_canon [3] rfl (by decide) (by decide) (fun b h => absurd h (Nat.not_lt_zero _)) (.cons rfl (.c (lstC_ren rfl (by decide))) (.cons rfl (avAs_free rfl) .nil)) (.row (by decide) rfl (fr_map fun _ => rfl) .nil))
  · replace h := ifF hc1 h
    refine Sv.exit ?_
    exact hK0 out zout hzout h _ (weak_canon [0] rfl (by decide) (by decide) (fun b h => absurd h (Nat.not_lt_zero _)) (.cons rfl (.c (lstC_ren rfl (by decide))) .nil) (.row (by decide) rfl (fr_map fun _ => rfl) .nil))
/-- clerestory/csstok.Cut -/
noncomputable def csstok_Cut (s_ : (List UInt8)) : Option (List TSToken) :=
  limF fun kk => csstok_Cut_l0 (fun (out1 : (List TSToken)) => 
      some out1) kk s_ ([] : List TSToken)
theorem csstok_Cut_ok {mL : Int} {s_ : (List UInt8)} {r : (List TSToken)} (h : csstok_Cut s_ = some r) : ACalls Tryd.prog (GG mL) 17 [(S s_)] (fun _ => none) 0 (csstok_Cut_post r) := by
  refine acalls_of_sv hmix c17 (R := csstok_Cut_post r) ?_
  unfold csstok_Cut at h
  refine Sv.seq ?_
  refine Sv.region ?_
  refine un (a1 rfl ?_)
  refine dnil ?_
  refine Sv.seq ?_
  refine Sv.region ?_
  refine un (a1 rfl ?_)
  refine dnil ?_
  refine Sv.seq ?_
  refine Sv.block ?_
  obtain ⟨kk, h⟩ := limF_some h
  refine Sv.weak (weak_canon [1000] rfl (by decide) (by decide) (fun b h => absurd h (Nat.not_lt_zero _)) (.cons rfl (.c (.same rfl)) (.cons rfl (avAs_free rfl) .nil)) (.non (by decide) .nil)) (csstok_Cut_l0_ok (fun _ => rfl) h ?_ (fun s hs => hs))
  · intro out1 zout1 hzout1 h _ hw1
    refine Sv.weak hw1 ?_
    refine Sv.seq ?_
    refine Sv.region ?_
    refine un (a1 rfl ?_)
    refine un (a1 rfl ?_)
    refine dnil ?_
    refine Sv.ret ?_
    replace h := Option.some.inj h
    subst h
    exact ⟨_, .refl _, _, rfl, ⟨upd (fun _ => none) 0 (some (lstV zout1 0 4 out1.length)), (upd (fun _ => none) 0 (lstB zout1 4 (out1.map e_TSToken))), 1⟩, (lstV zout1 0 4 out1.length), weak_canon2 [0] [0] (by decide) (by decide) (fun b h => absurd h (Nat.not_lt_zero _)) (.cons (by decide) .nil) (.cons rfl (.c (lstC_ren rfl (by decide))) .nil) (.row (by decide) rfl (fr_map fun _ => rfl) .nil), rfl, zout1, hzout1, rfl, rfl, rfl⟩
def a18_c0 : ACode := (.cond (.tmp 34) .skip (.exit 0))
def a18_c1 : ACode := (.block 1 (.region [⟨(some 35), (.mov (.tmp 0)), none⟩, ⟨(some 36), (.mov (.tmp 0)), none⟩, ⟨(some 37), (.nilc (.tmp 36)), none⟩, ⟨(some 38), (.faddr 0 (.tmp 37)), none⟩, ⟨(some 39), (.load false 1 (.tmp 38)), none⟩, ⟨(some 40), (.slSl 4 (.tmp 39) (some (.const (.c (.val (.int .i64 1))))) none none), none⟩, ⟨(some 41), (.nilc (.tmp 35)), none⟩, ⟨(some 42), (.faddr 0 (.tmp 41)), none⟩, ⟨none, (.store 1 (.tmp 42) (.tmp 40)), none⟩]))
def a18_c2 : ACode := (.seq (.seq (.region [⟨(some 9), (.mov (.tmp 0)), none⟩, ⟨(some 10), (.nilc (.tmp 9)), none⟩, ⟨(some 11), (.faddr 0 (.tmp 10)), none⟩, ⟨(some 12), (.load false 1 (.tmp 11)), none⟩, ⟨(some 13), (.len (.tmp 12)), none⟩, ⟨(some 14), (.bin .gtr (.tmp 13) (.const (.c (.val (.int .i64 0))))), none⟩, ⟨(some 15), (.mov (.tmp 14)), none⟩, ⟨(some 16), (.mov (.tmp 0)), (some (15, true))⟩, ⟨(some 17), (.nilc (.tmp 16)), (some (15, true))⟩, ⟨(some 18), (.faddr 0 (.tmp 17)), (some (15, true))⟩, ⟨(some 19), (.load false 1 (.tmp 18)), (some (15, true))⟩, ⟨(some 20), (.iaddr 4 (.tmp 19) (.const (.c (.val (.int .i64 0))))), (some (15, true))⟩, ⟨(some 21), (.faddr 0 (.tmp 20)), (some (15, true))⟩, ⟨(some 22), (.load false 1 (.tmp 21)), (some (15, true))⟩, ⟨(some 23), (.bin .eql (.tmp 22) (.const (.c (.val (.int .i64 8))))), (some (15, true))⟩, ⟨(some 24), (.mov (.tmp 23)), (some (15, true))⟩, ⟨(some 25), (.mov (.tmp 0)), (some (24, false))⟩, ⟨(some 26), (.nilc (.tmp 25)), (some (24, false))⟩, ⟨(some 27), (.faddr 0 (.tmp 26)), (some (24, false))⟩, ⟨(some 28), (.load false 1 (.tmp 27)), (some (24, false))⟩, ⟨(some 29), (.iaddr 4 (.tmp 28) (.const (.c (.val (.int .i64 0))))), (some (24, false))⟩, ⟨(some 30), (.faddr 0 (.tmp 29)), (some (24, false))⟩, ⟨(some 31), (.load false 1 (.tmp 30)), (some (24, false))⟩, ⟨(some 32), (.bin .eql (.tmp 31) (.const (.c (.val (.int .i64 9))))), (some (24, false))⟩, ⟨(some 33), (.pick (.tmp 24) (.const (.c (.val (.bool true)))) (.tmp 32)), (some (15, true))⟩, ⟨(some 34), (.pick (.tmp 15) (.tmp 33) (.const (.c (.val (.bool false))))), none⟩])
 a18_c0)
 a18_c1)
def a18 : AFunc := ⟨1, [(.tmp 2)], (.seq (.region [⟨(some 2), (.mov (.const (.c (.val (.bool false))))), none⟩])
 (.seq (.region [⟨(some 4), (.mov (.tmp 0)), none⟩, ⟨(some 5), (.nilc (.tmp 4)), none⟩, ⟨(some 6), (.faddr 0 (.tmp 5)), none⟩, ⟨(some 7), (.load false 1 (.tmp 6)), none⟩, ⟨(some 8), (.len (.tmp 7)), none⟩, ⟨(some 3), (.mov (.tmp 8)), none⟩])
 (.seq (.block 0 (.loop a18_c2))
 (.seq (.region [⟨(some 43), (.mov (.tmp 0)), none⟩, ⟨(some 44), (.nilc (.tmp 43)), none⟩, ⟨(some 45), (.faddr 0 (.tmp 44)), none⟩, ⟨(some 46), (.load false 1 (.tmp 45)), none⟩, ⟨(some 47), (.len (.tmp 46)), none⟩, ⟨(some 48), (.mov (.tmp 3)), none⟩, ⟨(some 49), (.bin .lss (.tmp 47) (.tmp 48)), none⟩, ⟨(some 2), (.mov (.tmp 49)), none⟩])
 .ret))))⟩
set_option maxRecDepth 100000 in
theorem c18 : compFunc Tryd.prog 18 = some a18 := by kernel_rfl
def clerestory_calc_reader_gap_post (r : (Bool × Treader)) : AV → Heap → Nat → Prop := fun v h' n' => v = (B r.1) ∧ (h' = (upd (fun _ => none) 0 (some (.cells 3 [[.ro false 4 (r.2.f_l.map e_TSToken), cI r.2.f_n, cB r.2.f_gapped]])))) ∧ n' = 1
abbrev clerestory_calc_reader_gap_l0_H (r_ : Treader) (F_ : (List TSToken) → Option (Bool × Treader)) (o : (Bool × Treader)) (R_ : St → Prop) : Prop := ∀ (r0 : (List TSToken)), F_ r0 = some o → ∀ s, Weak 1 s ⟨(upd (upd (fun _ => none) 0 (some (.c (.ref 0 3 0 0)))) 3 (some (I (r_.f_l.length : Int)))), (upd (fun _ => none) 0 (some (.cells 3 [[.ro false 4 (r0.map e_TSToken), cI r_.f_n, cB r_.f_gapped]]))), 1⟩ → R_ s
abbrev clerestory_calc_reader_gap_l0_E0 (r_ : Treader) (F_ : (List TSToken) → Option (Bool × Treader)) (o : (Bool × Treader)) (R_ : St → Prop) : Prop := ∀ (r01 : (List TSToken)), F_ r01 = some o → ∀ s, Weak 1 s ⟨(upd (upd (fun _ => none) 0 (some (.c (.ref 0 3 0 0)))) 3 (some (I (r_.f_l.length : Int)))), (upd (fun _ => none) 0 (some (.cells 3 [[.ro false 4 (r01.map e_TSToken), cI r_.f_n, cB r_.f_gapped]]))), 1⟩ → R_ s
abbrev clerestory_calc_reader_gap_q0 (mL : Int) (Q : AExit → St → Prop) : AExit → St → Prop := AThen (Sv Tryd.prog (GG mL) 1 a18_c1 Q) Q
noncomputable def clerestory_calc_reader_gap_j3 (r0 : (List TSToken)) (r_ : Treader) (self : (List TSToken) → Option (Bool × Treader)) (K0_ : (List TSToken) → Option (Bool × Treader)) (v34 : Bool) : Option (Bool × Treader) :=
  if v34 then
    (sub? r0 1 (r0.length : Int)).bind fun r_1 =>
    self r_1
  else
    K0_ r0
theorem clerestory_calc_reader_gap_j3_ok {mL : Int} {Q : AExit → St → Prop} {r0 : (List TSToken)} {r_ : Treader} {self : (List TSToken) → Option (Bool × Treader)} {K0_ : (List TSToken) → Option (Bool × Treader)} {v34 : Bool} {o : (Bool × Treader)} (h : clerestory_calc_reader_gap_j3 r0 r_ self K0_ v34 = some o)
    (hself : clerestory_calc_reader_gap_l0_H r_ self o (Q .normal))
    (hK0 : clerestory_calc_reader_gap_l0_E0 r_ K0_ o (Q (.exit 0)))
    (hr : ∀ s, Ends a18.results 1 (clerestory_calc_reader_gap_post o) .ret s → Q .ret s) :
    Sv Tryd.prog (GG mL) 1 a18_c0 (clerestory_calc_reader_gap_q0 mL Q) ⟨(upd (upd (upd (fun _ => none) 0 (some (.c (.ref 0 3 0 0)))) 3 (some (I (r_.f_l.length : Int)))) 34 (some (B v34))), (upd (fun _ => none) 0 (some (.cells 3 [[.ro false 4 (r0.map e_TSToken), cI r_.f_n, cB r_.f_gapped]]))), 1⟩ := by
  unfold clerestory_calc_reader_gap_j3 at h
  refine Sv.cond (b := v34) rfl (fun hc1 => ?_) (fun hc1 => ?_)
  · replace h := ifT hc1 h
    refine Sv.skip ?_
    refine Sv.block ?_
    refine Sv.region ?_
    refine un (a1 rfl ?_)
    refine un (a1 rfl ?_)
    refine un (a1 (v := (.c (.ref 0 3 0 0))) rfl ?_)
    refine un (a1 (v := (.c (.ref 0 3 0 0))) rfl ?_)
    refine un (a1 (v := (.c (.ro false 4 (r0.map e_TSToken)))) rfl ?_)
    obtain ⟨r_1, hx1, h⟩ := bnd h
    refine un (a1 (v := (.c (.ro false 4 (r_1.map e_TSToken)))) (s_slSl (e := e_TSToken) rfl rfl rfl hx1) ?_)
    refine un (a1 (v := (.c (.ref 0 3 0 0))) rfl ?_)
    refine un (a1 (v := (.c (.ref 0 3 0 0))) rfl ?_)
    refine un (a2n (h' := upd _ 0 (some (.cells 3 [[.ro false 4 (r_1.map e_TSToken), cI r_.f_n, cB r_.f_gapped]]))) (n' := 1) rfl rfl (fun h => by cases h) ?_)
    refine dnil ?_
    exact hself r_1 h _ (weak_canon [0] rfl (by decide) (by decide) (by decide) (.cons rfl (avAs_free rfl) (.cons rfl (.c (.ref rfl (by decide))) .nil)) (.box (by decide) rfl (blkAs_cells (.cons (.same rfl) (.cons (.same rfl) (.cons (.same rfl) .nil)))) .nil))
  · replace h := ifF hc1 h
    refine Sv.exit ?_
    exact hK0 r0 h _ (weak_canon [0] rfl (by decide) (by decide) (by decide) (.cons rfl (avAs_free rfl) (.cons rfl (.c (.ref rfl (by decide))) .nil)) (.box (by decide) rfl (blkAs_cells (.cons (.same rfl) (.cons (.same rfl) (.cons (.same rfl) .nil)))) .nil))
abbrev clerestory_calc_reader_gap_l0_I (r_ : Treader) (F_ : Nat → (List TSToken) → Option (Bool × Treader)) (o : (Bool × Treader)) : Nat → St → Prop := fun k s => ∃ (r0 : (List TSToken)), F_ k r0 = some o ∧ s = ⟨(upd (upd (fun _ => none) 0 (some (.c (.ref 0 3 0 0)))) 3 (some (I (r_.f_l.length : Int)))), (upd (fun _ => none) 0 (some (.cells 3 [[.ro false 4 (r0.map e_TSToken), cI r_.f_n, cB r_.f_gapped]]))), 1⟩
noncomputable def clerestory_calc_reader_gap_l0 (r_ : Treader) (K0_ : (List TSToken) → Option (Bool × Treader)) : Nat → (List TSToken) → Option (Bool × Treader)
  | 0, _ => none
  | k + 1, r0 =>
    if decide (0 < (r0.length : Int)) then
      (at? r0 0).bind fun x_ =>
      if decide (x_.Kind = 8) then
        clerestory_calc_reader_gap_j3 r0 r_ (clerestory_calc_reader_gap_l0 r_ K0_ k) K0_ true
      else
        (at? r0 0).bind fun x_1 =>
        clerestory_calc_reader_gap_j3 r0 r_ (clerestory_calc_reader_gap_l0 r_ K0_ k) K0_ (decide (x_1.Kind = 9))
    else
      clerestory_calc_reader_gap_j3 r0 r_ (clerestory_calc_reader_gap_l0 r_ K0_ k) K0_ false
theorem clerestory_calc_reader_gap_l0_ok {mL : Int} {Q : AExit → St → Prop} {r_ : Treader} {K0_ : (List TSToken) → Option (Bool × Treader)} {k : Nat} {r0 : (List TSToken)} {o : (Bool × Treader)} (h : clerestory_calc_reader_gap_l0 r_ K0_ k r0 = some o)
    (hK0 : clerestory_calc_reader_gap_l0_E0 r_ K0_ o (Q (.exit 0)))
    (hr : ∀ s, Ends a18.results 1 (clerestory_calc_reader_gap_post o) .ret s → Q .ret s) :
    Sv Tryd.prog (GG mL) 1 (.loop a18_c2) Q ⟨(upd (upd (fun _ => none) 0 (some (.c (.ref 0 3 0 0)))) 3 (some (I (r_.f_l.length : Int)))), (upd (fun _ => none) 0 (some (.cells 3 [[.ro false 4 (r0.map e_TSToken), cI r_.f_n, cB r_.f_gapped]]))), 1⟩ := by
  refine Sv.loop (I := clerestory_calc_reader_gap_l0_I r_ (clerestory_calc_reader_gap_l0 r_ K0_) o) (fun k s hI => ?_) ⟨r0, h, rfl⟩
  clear h
  clear r0
  obtain ⟨r0, h, rfl⟩ := hI
  cases k with
  | zero => cases h
  | succ k =>
  rw [clerestory_calc_reader_gap_l0] at h
  have hself : clerestory_calc_reader_gap_l0_H r_ (clerestory_calc_reader_gap_l0 r_ K0_ k) o (rnd 1 (clerestory_calc_reader_gap_l0_I r_ (clerestory_calc_reader_gap_l0 r_ K0_) o) k Q) := fun r0 h s hw => ⟨_, k, hw, Nat.lt_succ_self k, r0, h, rfl⟩
  refine Sv.seq ?_
  refine Sv.seq ?_
  refine Sv.region ?_
  refine un (a1 rfl ?_)
  refine un (a1 (v := (.c (.ref 0 3 0 0))) rfl ?_)
  refine un (a1 (v := (.c (.ref 0 3 0 0))) rfl ?_)
  refine un (a1 (v := (.c (.ro false 4 (r0.map e_TSToken)))) rfl ?_)
  refine un (a1 (v := (I (r0.length : Int))) (s_len (e := e_TSToken) (xs := r0) rfl) ?_)
  refine un (a1 (v := (B (decide (0 < (r0.length : Int))))) rfl ?_)
  refine un (a1 rfl ?_)
  refine split2 (fun hc2 => ?_) (fun hc2 => ?_)
  · replace h := ifT hc2 h
    refine gt rfl (a1 rfl ?_)
    refine gt rfl (a1 (v := (.c (.ref 0 3 0 0))) rfl ?_)
    refine gt rfl (a1 (v := (.c (.ref 0 3 0 0))) rfl ?_)
    refine gt rfl (a1 (v := (.c (.ro false 4 (r0.map e_TSToken)))) rfl ?_)
    obtain ⟨x_, hx2, h⟩ := bnd h
    refine gt rfl (a1 (v := (.c (.rop [cI x_.Kind, .str x_.Raw, .str x_.Value, cI x_.Num]))) (s_iaddr (e := e_TSToken) (xs := r0) rfl rfl hx2) ?_)
    refine gt rfl (a1 (v := (.c (.rop [cI x_.Kind, .str x_.Raw, .str x_.Value, cI x_.Num]))) rfl ?_)
    refine gt rfl (a1 (v := (I x_.Kind)) rfl ?_)
    refine gt rfl (a1 (v := (B (decide (x_.Kind = 8)))) rfl ?_)
    refine gt rfl (a1 rfl ?_)
    refine split2 (fun hc3 => ?_) (fun hc3 => ?_)
    · replace h := ifT hc3 h
      refine gs rfl rfl ?_
      refine gs rfl rfl ?_
      refine gs rfl rfl ?_
      refine gs rfl rfl ?_
      refine gs rfl rfl ?_
      refine gs rfl rfl ?_
      refine gs rfl rfl ?_
      refine gs rfl rfl ?_
      refine gt rfl (a1 (v := (B true)) rfl ?_)
      refine un (a1 (v := (B true)) rfl ?_)
      refine dnil ?_
      exact Sv.weak (weak_canon [0] rfl (by decide) (by decide) (by decide) (.cons rfl (avAs_free rfl) (.cons rfl (avAs_free rfl) (.cons rfl (.c (.ref rfl (by decide))) .nil))) (.box (by decide) rfl (blkAs_cells (.cons (.same rfl) (.cons (.same rfl) (.cons (.same rfl) .nil)))) .nil)) (clerestory_calc_reader_gap_j3_ok h hself hK0 hr)
    · replace h := ifF hc3 h
      refine gt rfl (a1 rfl ?_)
      refine gt rfl (a1 (v := (.c (.ref 0 3 0 0))) rfl ?_)
      refine gt rfl (a1 (v := (.c (.ref 0 3 0 0))) rfl ?_)
      refine gt rfl (a1 (v := (.c (.ro false 4 (r0.map e_TSToken)))) rfl ?_)
      obtain ⟨x_1, hx3, h⟩ := bnd h
      refine gt rfl (a1 (v := (.c (.rop [cI x_1.Kind, .str x_1.Raw, .str x_1.Value, cI x_1.Num]))) (s_iaddr (e := e_TSToken) (xs := r0) rfl rfl hx3) ?_)
      refine gt rfl (a1 (v := (.c (.rop [cI x_1.Kind, .str x_1.Raw, .str x_1.Value, cI x_1.Num]))) rfl ?_)
      refine gt rfl (a1 (v := (I x_1.Kind)) rfl ?_)
      refine gt rfl (a1 (v := (B (decide (x_1.Kind = 9)))) rfl ?_)
      refine gt rfl (a1 (v := (B (decide (x_1.Kind = 9)))) rfl ?_)
      refine un (a1 (v := (B (decide (x_1.Kind = 9)))) rfl ?_)
      refine dnil ?_
      exact Sv.weak (weak_canon [0] rfl (by decide) (by decide) (by decide) (.cons rfl (avAs_free rfl) (.cons rfl (avAs_free rfl) (.cons rfl (.c (.ref rfl (by decide))) .nil))) (.box (by decide) rfl (blkAs_cells (.cons (.same rfl) (.cons (.same rfl) (.cons (.same rfl) .nil)))) .nil)) (clerestory_calc_reader_gap_j3_ok h hself hK0 hr)
  · replace h := ifF hc2 h
    refine gs rfl rfl ?_
    refine gs rfl rfl ?_
    refine gs rfl rfl ?_
    refine gs rfl rfl ?_
    refine gs rfl rfl ?_
    refine gs rfl rfl ?_
    refine gs rfl rfl ?_
    refine gs rfl rfl ?_
    refine gs rfl rfl ?_
    refine gu rfl ?_
    refine gu rfl ?_
    refine gu rfl ?_
    refine gu rfl ?_
    refine gu rfl ?_
    refine gu rfl ?_
    refine gu rfl ?_
    refine gu rfl ?_
    refine gs rfl rfl ?_
    refine un (a1 (v := (B false)) rfl ?_)
    refine dnil ?_
    exact Sv.weak (weak_canon [0] rfl (by decide) (by decide) (by decide) (.cons rfl (avAs_free rfl) (.cons rfl (avAs_free rfl) (.cons rfl (.c (.ref rfl (by decide))) .nil))) (.box (by decide) rfl (blkAs_cells (.cons (.same rfl) (.cons (.same rfl) (.cons (.same rfl) .nil)))) .nil)) (clerestory_calc_reader_gap_j3_ok h hself hK0 hr)
/-- (*clerestory/calc.reader).gap -/
noncomputable def clerestory_calc_reader_gap (r_ : Treader) : Option (Bool × Treader) :=
  limF fun kk => clerestory_calc_reader_gap_l0 r_ (fun (r01 : (List TSToken)) => 
      some (decide ((r01.length : Int) < (r_.f_l.length : Int)), (⟨r01, r_.f_n, r_.f_gapped⟩ : Treader))) kk r_.f_l
theorem clerestory_calc_reader_gap_ok {mL : Int} {r_ : Treader} {r : (Bool × Treader)} (h : clerestory_calc_reader_gap r_ = some r) : ACalls Tryd.prog (GG mL) 18 [(.c (.ref 0 3 0 0))] (upd (fun _ => none) 0 (some (.cells 3 [[.ro false 4 (r_.f_l.map e_TSToken), cI r_.f_n, cB r_.f_gapped]]))) 1 (clerestory_calc_reader_gap_post r) := by
  refine acalls_of_sv hmix c18 (R := clerestory_calc_reader_gap_post r) ?_
  unfold clerestory_calc_reader_gap at h
  refine Sv.seq ?_
  refine Sv.region ?_
  refine un (a1 rfl ?_)
  refine dnil ?_
  refine Sv.seq ?_
  refine Sv.region ?_
  refine un (a1 rfl ?_)
  refine un (a1 (v := (.c (.ref 0 3 0 0))) rfl ?_)
  refine un (a1 (v := (.c (.ref 0 3 0 0))) rfl ?_)
  refine un (a1 (v := (.c (.ro false 4 (r_.f_l.map e_TSToken)))) rfl ?_)
  refine un (a1 (v := (I (r_.f_l.length : Int))) (s_len (e := e_TSToken) (xs := r_.f_l) rfl) ?_)
  refine un (a1 rfl ?_)
  refine dnil ?_
  refine Sv.seq ?_
  refine Sv.block ?_
  obtain ⟨kk, h⟩ := limF_some h
  refine Sv.weak (weak_canon [0] rfl (by decide) (by decide) (by decide) (.cons rfl (avAs_free rfl) (.cons rfl (.c (.ref rfl (by decide))) .nil)) (.box (by decide) rfl (blkAs_cells (.cons (.same rfl) (.cons (.same rfl) (.cons (.same rfl) .nil)))) .nil)) (clerestory_calc_reader_gap_l0_ok h ?_ (fun s hs => hs))
  · intro r01 h _ hw1
    refine Sv.weak hw1 ?_
    refine Sv.seq ?_
    refine Sv.region ?_
    refine un (a1 rfl ?_)
    refine un (a1 (v := (.c (.ref 0 3 0 0))) rfl ?_)
    refine un (a1 (v := (.c (.ref 0 3 0 0))) rfl ?_)
    refine un (a1 (v := (.c (.ro false 4 (r01.map e_TSToken)))) rfl ?_)
    refine un (a1 (v := (I (r01.length : Int))) (s_len (e := e_TSToken) (xs := r01) rfl) ?_)
    refine un (a1 rfl ?_)
    refine un (a1 (v := (B (decide ((r01.length : Int) < (r_.f_l.length : Int))))) rfl ?_)
    refine un (a1 rfl ?_)
    refine dnil ?_
    refine Sv.ret ?_
    replace h := Option.some.inj h
    subst h
    exact ⟨_, .refl _, _, rfl, ⟨upd (fun _ => none) 0 (some (B (decide ((r01.length : Int) < (r_.f_l.length : Int))))), (upd (fun _ => none) 0 (some (.cells 3 [[.ro false 4 (r01.map e_TSToken), cI r_.f_n, cB r_.f_gapped]]))), 1⟩, (B (decide ((r01.length : Int) < (r_.f_l.length : Int)))), weak_canon2 [0] [0] (by decide) (by decide) (by decide) (.cons (by decide) .nil) (.cons rfl (avAs_free rfl) .nil) (.box (by decide) rfl (blkAs_cells (.cons (.same rfl) (.cons (.same rfl) (.cons (.same rfl) .nil)))) .nil), rfl, rfl, rfl, rfl⟩
end Go.Proofs.YtcnfmehidmjejaaDoorBv
