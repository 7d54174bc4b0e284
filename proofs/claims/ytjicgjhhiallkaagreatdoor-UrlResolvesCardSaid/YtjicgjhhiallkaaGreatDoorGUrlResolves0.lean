/- Printed by a program of mine (bgen.py): plain functions, and the walks that show that the code comes to what they answer. -/
import Derived.Test.YtjicgjhhiallkaaGreatDoorRows
import Derived.Test.YtjicgjhhiallkaaGreatDoorBv40
import Derived.Test.YtjicgjhhiallkaaGreatDoorBv35
import Derived.Test.YtjicgjhhiallkaaGreatDoorBv30
import Derived.Test.YtjicgjhhiallkaaGreatDoorShelf
import Derived.Test.YtjicgjhhiallkaaGreatDoorBld
import Derived.Test.YtjicgjhhiallkaaGreatDoorBv36
import Derived.Test.YtjicgjhhiallkaaGreatDoorBv37
import Derived.Test.YtjicgjhhiallkaaGreatDoorBv39
import Derived.Test.YtjicgjhhiallkaaGreatDoorBv33
import Derived.Test.YtjicgjhhiallkaaGreatDoorBv46
import Derived.Test.YtjicgjhhiallkaaGreatDoorBv42
import Derived.Test.YtjicgjhhiallkaaGreatDoorBv48
import Derived.Test.YtjicgjhhiallkaaGreatDoorGrow
namespace Go.Proofs.YtjicgjhhiallkaaGreatDoorBv
open Go
set_option linter.unusedVariables false
set_option linter.unusedSimpArgs false
set_option maxRecDepth 100000
theorem hmix : Tryz.prog.follows .mixedOrders = true := by kernel_rfl
structure TJUrl where
 Scheme : Tx
 Host : Tx
 Port : Int
 Path : TT
 Query : Tx
 Asks : Bool
 Fragment : Tx
 Points : Bool
structure Tunit where
 f_c : Int
 f_triple : Bool
def e_Tunit (x : Tunit) : List Cel := [.val (.int .u8 x.f_c), cB x.f_triple]
def g1_c : List Cel := [.opq]
def g2_c : List Cel := [.opq]
def g3_c : List Cel := [1, 10, 100, 1000, 10000, 100000, 1000000, 10000000, 100000000, 1000000000, 10000000000, 100000000000, 1000000000000, 10000000000000, 100000000000000, 1000000000000000, 10000000000000000, 100000000000000000, 1000000000000000000, 10000000000000000000].map fun n => .val (.int .u64 n)
def g4_c : List Cel := [240, 240, 240, 240, 240, 240, 240, 240, 240, 240, 240, 240, 240, 240, 240, 240, 240, 240, 240, 240, 240, 240, 240, 240, 240, 240, 240, 240, 240, 240, 240, 240, 240, 240, 240, 240, 240, 240, 240, 240, 240, 240, 240, 240, 240, 240, 240, 240, 240, 240, 240, 240, 240, 240, 240, 240, 240, 240, 240, 240, 240, 240, 240, 240, 240, 240, 240, 240, 240, 240, 240, 240, 240, 240, 240, 240, 240, 240, 240, 240, 240, 240, 240, 240, 240, 240, 240, 240, 240, 240, 240, 240, 240, 240, 240, 240, 240, 240, 240, 240, 240, 240, 240, 240, 240, 240, 240, 240, 240, 240, 240, 240, 240, 240, 240, 240, 240, 240, 240, 240, 240, 240, 240, 240, 240, 240, 240, 240, 241, 241, 241, 241, 241, 241, 241, 241, 241, 241, 241, 241, 241, 241, 241, 241, 241, 241, 241, 241, 241, 241, 241, 241, 241, 241, 241, 241, 241, 241, 241, 241, 241, 241, 241, 241, 241, 241, 241, 241, 241, 241, 241, 241, 241, 241, 241, 241, 241, 241, 241, 241, 241, 241, 241, 241, 241, 241, 241, 241, 241, 241, 241, 241, 241, 241, 2, 2, 2, 2, 2, 2, 2, 2, 2, 2, 2, 2, 2, 2, 2, 2, 2, 2, 2, 2, 2, 2, 2, 2, 2, 2, 2, 2, 2, 2, 19, 3, 3, 3, 3, 3, 3, 3, 3, 3, 3, 3, 3, 35, 3, 3, 52, 4, 4, 4, 68, 241, 241, 241, 241, 241, 241, 241, 241, 241, 241, 241].map fun n => .val (.int .u8 n)
def g5_c : List Cel := [128, 191, 160, 191, 128, 159, 144, 191, 128, 143, 0, 0, 0, 0, 0, 0, 0, 0, 0, 0, 0, 0, 0, 0, 0, 0, 0, 0, 0, 0, 0, 0].map fun n => .val (.int .u8 n)
def g7_c : List Cel := [0, 1, 28, 2, 29, 14, 24, 3, 30, 22, 20, 15, 25, 17, 4, 8, 31, 27, 13, 23, 21, 19, 16, 7, 26, 12, 18, 6, 11, 5, 10, 9].map fun n => .val (.int .u8 n)
def g8_c : List Cel := [0, 1, 56, 2, 57, 49, 28, 3, 61, 58, 42, 50, 38, 29, 17, 4, 62, 47, 59, 36, 45, 43, 51, 22, 53, 39, 33, 30, 24, 18, 12, 5, 63, 55, 48, 27, 60, 41, 37, 16, 46, 35, 44, 21, 52, 32, 23, 11, 54, 26, 40, 15, 34, 20, 31, 10, 25, 14, 19, 9, 13, 8, 7, 6].map fun n => .val (.int .u8 n)
/-- what the listed package variables hold -/
def GG (mL : Int) : Glob := fun g => if g = 0 then [.val (.int .i64 mL)] else if g = 1 then g1_c else if g = 2 then g2_c else if g = 3 then g3_c else if g = 4 then g4_c else if g = 5 then g5_c else if g = 7 then g7_c else if g = 8 then g8_c else []
def a71 : AFunc := ⟨1, [(.tmp 2)], (.seq (.region [⟨(some 2), (.mov (.const (.c (.val (.int .i32 0))))), none⟩])
 (.seq (.seq (.region [(mV 3 0), ⟨(some 4), (.bin .geq (.tmp 3) (.const (.c (.val (.int .i32 65))))), none⟩, (mV 5 4), ⟨(some 6), (.mov (.tmp 0)), (some (5, true))⟩, ⟨(some 7), (.bin .leq (.tmp 6) (.const (.c (.val (.int .i32 90))))), (some (5, true))⟩, ⟨(some 8), (.pick (.tmp 5) (.tmp 7) (.const (.c (.val (.bool false))))), none⟩])
 (.cond (.tmp 8) (.seq (.region [(mV 9 0), ⟨(some 10), (.bin .add (.tmp 9) (.const (.c (.val (.int .i32 97))))), none⟩, ⟨(some 11), (.bin .sub (.tmp 10) (.const (.c (.val (.int .i32 65))))), none⟩, (mV 2 11)])
 .ret) .skip))
 (.seq (.region [(mV 12 0), (mV 2 12)])
 .ret)))⟩
set_option maxRecDepth 100000 in
theorem c71 : compFunc Tryz.prog 71 = some a71 := by kernel_rfl
def url_small_fn1_post (r : Int) : AV → Heap → Nat → Prop := fun v h' n' => v = (.c (.val (.int .i32 r))) ∧ (h' = e0) ∧ n' = 0
/-- clerestory/url.small$1 -/
def url_small_fn1 (r_ : Int) : Int :=
 if ((decide (65 ≤ r_)) && (decide (r_ ≤ 90))) then
  (wr .i32 ((wr .i32 (r_ + 97)) - 65))
 else
  r_
theorem url_small_fn1_ok {mL : Int} (r_ : Int) : CPure Tryz.prog (GG mL) 71 [(.c (.val (.int .i32 r_)))] (.c (.val (.int .i32 (url_small_fn1 r_)))) := by
 generalize h : url_small_fn1 r_ = o
 refine acalls_of_sv hmix c71 (R := url_small_fn1_post o) ?_
 unfold url_small_fn1 at h
 refine ssr <| un1 rfl <| dnil <| Sv.seq <| ssr <| un1 rfl <| un1 (v := (B (decide (65 ≤ r_)))) rfl <| un1 rfl ?_
 refine gjoin 3 (d := 8) (v := (B ((decide (65 ≤ r_)) && (decide (r_ ≤ 90))))) (fun X hX => ?_) ?_
 ·refine split2 (fun hc1 => ?_) (fun hc1 => ?_)
  ·refine gt rfl <| a1 rfl <| gt rfl <| a1 (v := (B (decide (r_ ≤ 90)))) rfl <| un1 (v := (B (decide (r_ ≤ 90)))) rfl <| dnil ?_
   exact hX _ (.putEq (by rw [hc1]; rfl) (.skip _ _ (.skip _ _ (.putEq (by rw [hc1]) (.refl _)) rfl) rfl))
  ·refine gs rfl rfl <| gs rfl rfl <| un1 (v := (B false)) rfl <| dnil ?_
   exact hX _ (.putEq (by rw [hc1]; rfl) (.skip _ _ (.skip _ _ (.putEq (by rw [hc1]) (.refl _)) rfl) rfl))
 refine dnil ?_
 refine Sv.cond (b := ((decide (65 ≤ r_)) && (decide (r_ ≤ 90)))) rfl (fun hc2 => ?_) (fun hc2 => ?_)
 ·replace h := ifT hc2 h
  refine ssr <| un1 rfl <| un1 (v := (.c (.val (.int .i32 (wr .i32 (r_ + 97)))))) rfl <| un1 (v := (.c (.val (.int .i32 (wr .i32 ((wr .i32 (r_ + 97)) - 65)))))) rfl <| un1 rfl <| dnil <| Sv.ret ?_
  subst h
  exact ⟨_, .refl _, _, rfl, ⟨upd e0 0 (some (.c (.val (.int .i32 (wr .i32 ((wr .i32 (r_ + 97)) - 65)))))), e0, 0⟩, (.c (.val (.int .i32 (wr .i32 ((wr .i32 (r_ + 97)) - 65))))), weak_canon [] rfl List.nodup_nil (Nat.le_refl _) nlz (.cf rfl rfl .nil) .nil, rfl, rfl, rfl, rfl⟩
 ·replace h := ifF hc2 h
  refine Sv.skip <| ssr <| un1 rfl <| un1 rfl <| dnil <| Sv.ret ?_
  subst h
  exact ⟨_, .refl _, _, rfl, ⟨upd e0 0 (some (.c (.val (.int .i32 r_)))), e0, 0⟩, (.c (.val (.int .i32 r_))), weak_canon [] rfl List.nodup_nil (Nat.le_refl _) nlz (.cf rfl rfl .nil) .nil, rfl, rfl, rfl, rfl⟩
noncomputable abbrev strings_Map (s_ : List UInt8) : Option Tx := smap? url_small_fn1 s_
/-- strings.Map, by the contract of the shelf -/
theorem strings_Map_ok {mL : Int} {s_ r : List UInt8} (h : strings_Map s_ = some r) : CPure Tryz.prog (GG mL) 70 [.c (.fn (.func 71) [] []), S s_] (S r) := map_ok Tryz.lays230 Tryz.Builder_Extra_230 (enters_of Tryz.func71 (by kernel_rfl) rfl) (by kernel_rfl) (by kernel_rfl) (fun x => url_small_fn1_ok x) h
def a41 : AFunc := ⟨1, [(.tmp 2)], (.seq (.region [⟨(some 2), (.mov (.const (.c (.str [])))), none⟩])
 (.seq (.region [(mV 3 0), ⟨(some 4), (.call 70 [(.const (.c (.fn (.func 71) [] []))), (.tmp 3)]), none⟩, (mV 2 4)])
 .ret))⟩
set_option maxRecDepth 100000 in
theorem c41 : compFunc Tryz.prog 41 = some a41 := by kernel_rfl
def url_small_post (r : Tx) : AV → Heap → Nat → Prop := fun v h' n' => v = (S r) ∧ (h' = e0) ∧ n' = 0
/-- clerestory/url.small -/
noncomputable def url_small (s_ : Tx) : Option Tx :=
 (strings_Map s_).bind fun r_ =>
 some r_
theorem url_small_ok {mL : Int} {s_ : Tx} {r : Tx} (h : url_small s_ = some r) : CPure Tryz.prog (GG mL) 41 [(S s_)] (S r) := by
 refine acalls_of_sv hmix c41 (R := url_small_post r) ?_
 unfold url_small at h
 refine ssr <| un1 rfl <| dnil <| ssr <| un1 rfl ?_
 obtain ⟨r_, hr1, h⟩ := bnd h
 refine un <| ac_pure (strings_Map_ok hr1) rfl rfl rfl <| un1 rfl <| dnil <| Sv.ret ?_
 replace h := Option.some.inj h
 subst h
 exact ⟨_, .refl _, _, rfl, ⟨upd e0 0 (some (S r_)), e0, 0⟩, (S r_), weak_canon [] rfl List.nodup_nil (Nat.le_refl _) nlz (.cf rfl rfl .nil) .nil, rfl, rfl, rfl, rfl⟩
def a42 : AFunc := ⟨1, [(.tmp 2)], (.seq (.region [⟨(some 2), (.mov (.const (.c (.val (.bool false))))), none⟩])
 (.seq (.region [(mV 3 0), ⟨(some 4), (.bin .geq (.tmp 3) (.const (.c (.val (.int .u8 97))))), none⟩, (mV 5 4), ⟨(some 6), (.mov (.tmp 0)), (some (5, true))⟩, ⟨(some 7), (.bin .leq (.tmp 6) (.const (.c (.val (.int .u8 122))))), (some (5, true))⟩, ⟨(some 8), (.pick (.tmp 5) (.tmp 7) (.const (.c (.val (.bool false))))), none⟩, (mV 9 8), ⟨(some 10), (.mov (.tmp 0)), (some (9, false))⟩, ⟨(some 11), (.bin .geq (.tmp 10) (.const (.c (.val (.int .u8 65))))), (some (9, false))⟩, ⟨(some 12), (.mov (.tmp 11)), (some (9, false))⟩, ⟨(some 13), (.mov (.tmp 0)), (some (12, true))⟩, ⟨(some 14), (.bin .leq (.tmp 13) (.const (.c (.val (.int .u8 90))))), (some (12, true))⟩, ⟨(some 15), (.pick (.tmp 12) (.tmp 14) (.const (.c (.val (.bool false))))), (some (9, false))⟩, ⟨(some 16), (.pick (.tmp 9) (.const (.c (.val (.bool true)))) (.tmp 15)), none⟩, (mV 2 16)])
 .ret))⟩
set_option maxRecDepth 100000 in
theorem c42 : compFunc Tryz.prog 42 = some a42 := by kernel_rfl
def url_letter_post (r : Bool) : AV → Heap → Nat → Prop := fun v h' n' => v = (B r) ∧ (h' = e0) ∧ n' = 0
/-- clerestory/url.letter -/
def url_letter (c_ : Int) : Bool :=
 (((decide (97 ≤ c_)) && (decide (c_ ≤ 122))) || ((decide (65 ≤ c_)) && (decide (c_ ≤ 90))))
theorem url_letter_ok {mL : Int} (c_ : Int) : CPure Tryz.prog (GG mL) 42 [(.c (.val (.int .u8 c_)))] (B (url_letter c_)) := by
 generalize h : url_letter c_ = o
 refine acalls_of_sv hmix c42 (R := url_letter_post o) ?_
 unfold url_letter at h
 refine ssr <| un1 rfl <| dnil <| ssr <| un1 rfl <| un1 (v := (B (decide (97 ≤ c_)))) rfl <| un1 rfl ?_
 refine gjoin 3 (d := 8) (v := (B ((decide (97 ≤ c_)) && (decide (c_ ≤ 122))))) (fun X hX => ?_) ?_
 ·refine split2 (fun hc1 => ?_) (fun hc1 => ?_)
  ·refine gt rfl <| a1 rfl <| gt rfl <| a1 (v := (B (decide (c_ ≤ 122)))) rfl <| un1 (v := (B (decide (c_ ≤ 122)))) rfl <| dnil ?_
   exact hX _ (.putEq (by rw [hc1]; rfl) (.skip _ _ (.skip _ _ (.putEq (by rw [hc1]) (.refl _)) rfl) rfl))
  ·refine gs rfl rfl <| gs rfl rfl <| un1 (v := (B false)) rfl <| dnil ?_
   exact hX _ (.putEq (by rw [hc1]; rfl) (.skip _ _ (.skip _ _ (.putEq (by rw [hc1]) (.refl _)) rfl) rfl))
 refine un1 rfl ?_
 refine gjoin 7 (d := 16) (v := (B (((decide (97 ≤ c_)) && (decide (c_ ≤ 122))) || ((decide (65 ≤ c_)) && (decide (c_ ≤ 90)))))) (fun X hX => ?_) ?_
 ·refine split2 (fun hc3 => ?_) (fun hc3 => ?_)
  ·refine gs rfl rfl <| gs rfl rfl <| gs rfl rfl <| gu rfl <| gu rfl <| gs rfl rfl <| un1 (v := (B true)) rfl <| dnil ?_
   exact hX _ (.putEq (by rw [hc3]; rfl) (.skip _ _ (.skip _ _ (.skip _ _ (.skip _ _ (.skip _ _ (.skip _ _ (.putEq (by rw [hc3]) (.refl _)) rfl) rfl) rfl) rfl) rfl) rfl))
  ·refine gt rfl <| a1 rfl <| gt rfl <| a1 (v := (B (decide (65 ≤ c_)))) rfl <| gt rfl <| a1 rfl ?_
   refine gjoin 3 (d := 15) (v := (B ((decide (65 ≤ c_)) && (decide (c_ ≤ 90))))) (fun X hX => ?_) ?_
   ·refine split2 (fun hc2 => ?_) (fun hc2 => ?_)
    ·refine gt rfl <| a1 rfl <| gt rfl <| a1 (v := (B (decide (c_ ≤ 90)))) rfl <| gt rfl <| a1 (v := (B (decide (c_ ≤ 90)))) rfl <| dnil ?_
     exact hX _ (.putEq (by rw [hc2]; rfl) (.skip _ _ (.skip _ _ (.putEq (by rw [hc2]) (.refl _)) rfl) rfl))
    ·refine gs rfl rfl <| gs rfl rfl <| gt rfl <| a1 (v := (B false)) rfl <| dnil ?_
     exact hX _ (.putEq (by rw [hc2]; rfl) (.skip _ _ (.skip _ _ (.putEq (by rw [hc2]) (.refl _)) rfl) rfl))
   refine un1 (v := (B ((decide (65 ≤ c_)) && (decide (c_ ≤ 90))))) rfl <| dnil ?_
   exact hX _ (.putEq (by rw [hc3]; rfl) (.skip _ _ (.skip _ _ (.skip _ _ (.skip _ _ (.putEq (by rw [hc3]) (.refl _)) rfl) rfl) rfl) rfl))
 refine un1 rfl <| dnil <| Sv.ret ?_
 subst h
 exact ⟨_, .refl _, _, rfl, ⟨upd e0 0 (some (B (((decide (97 ≤ c_)) && (decide (c_ ≤ 122))) || ((decide (65 ≤ c_)) && (decide (c_ ≤ 90)))))), e0, 0⟩, (B (((decide (97 ≤ c_)) && (decide (c_ ≤ 122))) || ((decide (65 ≤ c_)) && (decide (c_ ≤ 90))))), weak_canon [] rfl List.nodup_nil (Nat.le_refl _) nlz (.cf rfl rfl .nil) .nil, rfl, rfl, rfl, rfl⟩
noncomputable abbrev strings_IndexByte (s_ : Tx) (c_ : Int) : Option Int := indexByte? s_ c_
/-- strings.IndexByte, by the contract of the shelf -/
theorem strings_IndexByte_ok {mL : Int} {s_ : Tx} {c_ : Int} {r : Int} (h : strings_IndexByte s_ c_ = some r) : CPure Tryz.prog (GG mL) 72 [(S s_), (.c (.val (.int .u8 c_)))] (I r) := indexByte_ok Tryz.lays137 h
def a43 : AFunc := ⟨2, [(.tmp 4)], (.seq (.region [⟨(some 4), (.mov (.const (.c (.val (.bool false))))), none⟩])
 (.seq (.region [(mV 5 1), (mV 6 0), (oP 7 (.call 72 [(.tmp 5), (.tmp 6)])), ⟨(some 8), (.bin .geq (.tmp 7) (kI 0)), none⟩, (mV 4 8)])
 .ret))⟩
set_option maxRecDepth 100000 in
theorem c43 : compFunc Tryz.prog 43 = some a43 := by kernel_rfl
def url_in_post (r : Bool) : AV → Heap → Nat → Prop := fun v h' n' => v = (B r) ∧ (h' = e0) ∧ n' = 0
/-- clerestory/url.in -/
noncomputable def url_in (c_ : Int) (set_ : Tx) : Option Bool :=
 (strings_IndexByte set_ c_).bind fun r_ =>
 some (decide (0 ≤ r_))
theorem url_in_ok {mL : Int} {c_ : Int} {set_ : Tx} {r : Bool} (h : url_in c_ set_ = some r) : CPure Tryz.prog (GG mL) 43 [(.c (.val (.int .u8 c_))), (S set_)] (B r) := by
 refine acalls_of_sv hmix c43 (R := url_in_post r) ?_
 unfold url_in at h
 refine ssr <| un1 rfl <| dnil <| ssr <| un1 rfl <| un1 rfl ?_
 obtain ⟨r_, hr1, h⟩ := bnd h
 refine un <| ac_pure (strings_IndexByte_ok hr1) rfl rfl rfl <| un1 (v := (B (decide (0 ≤ r_)))) rfl <| un1 rfl <| dnil <| Sv.ret ?_
 replace h := Option.some.inj h
 subst h
 exact ⟨_, .refl _, _, rfl, ⟨upd e0 0 (some (B (decide (0 ≤ r_)))), e0, 0⟩, (B (decide (0 ≤ r_))), weak_canon [] rfl List.nodup_nil (Nat.le_refl _) nlz (.cf rfl rfl .nil) .nil, rfl, rfl, rfl, rfl⟩
def a17_c0 : ACode := (.cond (.tmp 30) (.seq (.region [⟨(some 2), (.mov (.const (.c (.str [])))), none⟩, ⟨(some 3), (.mov (.const (.c (.str [])))), none⟩, ⟨(some 4), (.mov (.const (.c (.val (.bool false))))), none⟩])
 .ret) .skip)
def a17_c1 : ACode := (.region [⟨(some 43), (.bin .add (.tmp 9) (kI 1)), none⟩, (mV 9 43)])
def a17_c2 : ACode := (.seq (.region [(oP 10 (.bin .lss (.tmp 9) (.tmp 8)))])
 (.seq (.cond (.tmp 10) .skip (.exit 0))
 (.seq (.block 1 (.seq (.region [(mV 11 9), (mV 5 11)])
 (.seq (.region [(mV 12 0), (mV 13 5), (oP 14 (.idxS (.tmp 12) (.tmp 13))), (mV 6 14)])
 (.block 2 (.seq (.region [(mV 16 6), ⟨(some 17), (.bin .eql (.tmp 16) (.const (.c (.val (.int .u8 58))))), none⟩, (mV 18 17), ⟨(some 19), (.mov (.tmp 5)), (some (18, true))⟩, ⟨(some 20), (.bin .gtr (.tmp 19) (kI 0)), (some (18, true))⟩, ⟨(some 21), (.pick (.tmp 18) (.tmp 20) (.const (.c (.val (.bool false))))), none⟩, (mV 15 21)])
 (.cond (.tmp 15) (.seq (.drawn (.fin [((mV 22 0), (0, 0)), ((mV 23 5), (0, 1)), ((oP 24 (.slStr (.tmp 22) none (some (.tmp 23)))), (0, 2)), ((mV 26 0), (0, 4)), ((mV 27 5), (0, 5)), (⟨(some 28), (.bin .add (.tmp 27) (kI 1)), none⟩, (0, 6)), ((oP 29 (.slStr (.tmp 26) (some (.tmp 28)) none)), (0, 7)), ((oP 25 (.call 41 [(.tmp 24)])), (2, 3)), ((mV 2 25), (0, 8)), ((mV 3 29), (0, 9)), (⟨(some 4), (.mov (.const (.c (.val (.bool true))))), none⟩, (0, 10))]))
 .ret) (.seq (.region [(mV 31 6), (oP 32 (.call 42 [(.tmp 31)])), (oP 33 (.un .not (.tmp 32))), (mV 34 33), ⟨(some 35), (.mov (.tmp 5)), (some (34, true))⟩, ⟨(some 36), (.bin .eql (.tmp 35) (kI 0)), (some (34, true))⟩, ⟨(some 37), (.mov (.tmp 36)), (some (34, true))⟩, ⟨(some 38), (.mov (.tmp 6)), (some (37, false))⟩, ⟨(some 39), (.call 43 [(.tmp 38), (.const (.c (.str [48, 49, 50, 51, 52, 53, 54, 55, 56, 57, 43, 45, 46])))]), (some (37, false))⟩, ⟨(some 40), (.un .not (.tmp 39)), (some (37, false))⟩, ⟨(some 41), (.pick (.tmp 37) (.const (.c (.val (.bool true)))) (.tmp 40)), (some (34, true))⟩, ⟨(some 42), (.pick (.tmp 34) (.tmp 41) (.const (.c (.val (.bool false))))), none⟩, (mV 30 42)])
 a17_c0)))))))
 a17_c1)))
def a17 : AFunc := ⟨1, [(.tmp 2), (.tmp 3), (.tmp 4)], (.seq (.region [⟨(some 2), (.mov (.const (.c (.str [])))), none⟩, ⟨(some 3), (.mov (.const (.c (.str [])))), none⟩, ⟨(some 4), (.mov (.const (.c (.val (.bool false))))), none⟩])
 (.seq (.seq (.region [(mV 7 0), (oP 8 (.lenS (.tmp 7))), ⟨(some 9), (.mov (kI 0)), none⟩])
 (.block 0 (.loop a17_c2)))
 (.seq (.region [⟨(some 2), (.mov (.const (.c (.str [])))), none⟩, ⟨(some 3), (.mov (.const (.c (.str [])))), none⟩, ⟨(some 4), (.mov (.const (.c (.val (.bool false))))), none⟩])
 .ret)))⟩
set_option maxRecDepth 100000 in
theorem c17 : compFunc Tryz.prog 17 = some a17 := by kernel_rfl
def url_scheme_post (r : (Tx × Tx × Bool)) : AV → Heap → Nat → Prop := fun v h' n' => v = (.tup [(S r.1), (S r.2.1), (B r.2.2)]) ∧ (h' = e0) ∧ n' = 0
abbrev url_scheme_q0 (mL : Int) (Q : AExit → St → Prop) : AExit → St → Prop := AThen (Sv Tryz.prog (GG mL) 0 a17_c1 Q) Q
abbrev url_scheme_q1 (mL : Int) (Q : AExit → St → Prop) : AExit → St → Prop := ABlock 1 (url_scheme_q0 mL Q)
abbrev url_scheme_q2 (mL : Int) (Q : AExit → St → Prop) : AExit → St → Prop := ABlock 2 (url_scheme_q1 mL Q)
noncomputable def url_scheme_j3 (v9 : Int) (s_ : Tx) (self : Int → Option (Tx × Tx × Bool)) (K0_ : Unit → Option (Tx × Tx × Bool)) (v30 : Bool) : Option (Tx × Tx × Bool) :=
 if v30 then
  some ([], [], false)
 else
  self (wi (v9 + 1))
theorem url_scheme_j3_ok {mL : Int} {Q : AExit → St → Prop} {v9 : Int} {s_ : Tx} {self : Int → Option (Tx × Tx × Bool)} {K0_ : Unit → Option (Tx × Tx × Bool)} {v30 : Bool} {o : (Tx × Tx × Bool)} (h : url_scheme_j3 v9 s_ self K0_ v30 = some o)
  (hself : ∀ (v9 : Int), self v9 = some o → ∀ s, Weak 0 s ⟨(upd (upd (upd e0 0 (some (S s_))) 8 (some (I (s_.length : Int)))) 9 (some (I v9))), e0, 0⟩ → (Q) .normal s)
  (hK0 : ∀ (_ : Unit), K0_ () = some o → ∀ s, Weak 0 s ⟨e0, e0, 0⟩ → Q (.exit 0) s)
  (hr : ∀ s, Ends a17.results 0 (url_scheme_post o) .ret s → Q .ret s) :
  Sv Tryz.prog (GG mL) 0 a17_c0 (url_scheme_q2 mL Q) ⟨(upd (upd (upd (upd e0 0 (some (S s_))) 8 (some (I (s_.length : Int)))) 9 (some (I v9))) 30 (some (B v30))), e0, 0⟩ := by
 unfold url_scheme_j3 at h
 refine Sv.cond (b := v30) rfl (fun hc4 => ?_) (fun hc4 => ?_)
 ·replace h := ifT hc4 h
  refine ssr <| un1 rfl <| un1 rfl <| un1 rfl <| dnil <| Sv.ret ?_
  replace h := Option.some.inj h
  subst h
  exact hr _ ⟨_, .refl _, _, rfl, ⟨upd e0 0 (some (.tup [(S []), (S []), (B false)])), e0, 0⟩, (.tup [(S []), (S []), (B false)]), weak_canon [] rfl List.nodup_nil (Nat.le_refl _) nlz (.cons rfl (avAs_tup (.cons (avAs_free rfl) (.cons (avAs_free rfl) (.cons (avAs_free rfl) .nil)))) .nil) .nil, rfl, rfl, rfl, rfl⟩
 ·replace h := ifF hc4 h
  refine Sv.skip <| srg <| un1 (v := (I (wi (v9 + 1)))) rfl <| un1 rfl <| dnil ?_
  exact hself (wi (v9 + 1)) h _ (wcn [] rfl (.cf rfl rfl (.cf rfl rfl (.cf rfl rfl .nil))) .nil)
noncomputable def url_scheme_l0 (s_ : Tx) (K0_ : Unit → Option (Tx × Tx × Bool)) : Nat → Int → Option (Tx × Tx × Bool)
 | 0, _ => none
 | k + 1, v9 =>
  if decide (v9 < (s_.length : Int)) then
   (at? s_ v9).bind fun c_ =>
   if ((decide ((c_.toNat : Int) = 58)) && (decide (0 < v9))) then
    (sub? s_ 0 v9).bind fun r_ =>
    (sub? s_ (wi (v9 + 1)) (s_.length : Int)).bind fun r_1 =>
    (url_small r_).bind fun r_2 =>
    some (r_2, r_1, true)
   else
    if (!(url_letter (c_.toNat : Int))) then
     if decide (v9 = 0) then
      url_scheme_j3 v9 s_ (url_scheme_l0 s_ K0_ k) K0_ true
     else
      (url_in (c_.toNat : Int) [48, 49, 50, 51, 52, 53, 54, 55, 56, 57, 43, 45, 46]).bind fun r_3 =>
      url_scheme_j3 v9 s_ (url_scheme_l0 s_ K0_ k) K0_ (!r_3)
    else
     url_scheme_j3 v9 s_ (url_scheme_l0 s_ K0_ k) K0_ false
  else
   K0_ ()
theorem url_scheme_l0_ok {mL : Int} {Q : AExit → St → Prop} {s_ : Tx} {K0_ : Unit → Option (Tx × Tx × Bool)} {k : Nat} {v9 : Int} {o : (Tx × Tx × Bool)} (h : url_scheme_l0 s_ K0_ k v9 = some o)
  (hK0 : ∀ (_ : Unit), K0_ () = some o → ∀ s, Weak 0 s ⟨e0, e0, 0⟩ → Q (.exit 0) s)
  (hr : ∀ s, Ends a17.results 0 (url_scheme_post o) .ret s → Q .ret s) :
  Sv Tryz.prog (GG mL) 0 (.loop a17_c2) Q ⟨(upd (upd (upd e0 0 (some (S s_))) 8 (some (I (s_.length : Int)))) 9 (some (I v9))), e0, 0⟩ := by
 refine Sv.loop (I := fun k s => ∃ (v9 : Int), url_scheme_l0 s_ K0_ k v9 = some o ∧ s = ⟨(upd (upd (upd e0 0 (some (S s_))) 8 (some (I (s_.length : Int)))) 9 (some (I v9))), e0, 0⟩) (fun k s hI => ?_) ⟨v9, h, rfl⟩
 clear h
 clear v9
 obtain ⟨v9, h, rfl⟩ := hI
 cases k with
 | zero => cases h
 | succ k =>
 rw [url_scheme_l0] at h
 have hself : ∀ (v9 : Int), (url_scheme_l0 s_ K0_ k) v9 = some o → ∀ s, Weak 0 s ⟨(upd (upd (upd e0 0 (some (S s_))) 8 (some (I (s_.length : Int)))) 9 (some (I v9))), e0, 0⟩ → (AThen (fun s' => ∃ s'' k', Weak 0 s' s'' ∧ k' < k + 1 ∧ (fun k s => ∃ (v9 : Int), url_scheme_l0 s_ K0_ k v9 = some o ∧ s = ⟨(upd (upd (upd e0 0 (some (S s_))) 8 (some (I (s_.length : Int)))) 9 (some (I v9))), e0, 0⟩) k' s'') Q) .normal s := fun v9 h s hw => ⟨_, k, hw, Nat.lt_succ_self k, v9, h, rfl⟩
 refine ssr <| un1 (v := (B (decide (v9 < (s_.length : Int))))) rfl <| dnil <| Sv.seq ?_
 refine Sv.cond (b := decide (v9 < (s_.length : Int))) rfl (fun hc1 => ?_) (fun hc1 => ?_)
 ·replace h := ifT hc1 h
  refine Sv.skip <| Sv.seq <| Sv.block <| ssr <| un1 rfl <| un1 rfl <| dnil <| ssr <| un1 rfl <| un1 rfl ?_
  obtain ⟨c_, hx1, h⟩ := bnd h
  refine un1 (v := (.c (.val (.int .u8 (c_.toNat : Int))))) (s_idxS rfl rfl hx1) <| un1 rfl <| dnil <| Sv.block <| ssr <| un1 rfl <| un1 (v := (B (decide ((c_.toNat : Int) = 58)))) rfl <| un1 rfl ?_
  refine gjoin 3 (d := 21) (v := (B ((decide ((c_.toNat : Int) = 58)) && (decide (0 < v9))))) (fun X hX => ?_) ?_
  ·refine split2 (fun hc2 => ?_) (fun hc2 => ?_)
   ·refine gt rfl <| a1 rfl <| gt rfl <| a1 (v := (B (decide (0 < v9)))) rfl <| un1 (v := (B (decide (0 < v9)))) rfl <| dnil ?_
    exact hX _ (.putEq (by rw [hc2]; rfl) (.skip _ _ (.skip _ _ (.putEq (by rw [hc2]) (.refl _)) rfl) rfl))
   ·refine gs rfl rfl <| gs rfl rfl <| un1 (v := (B false)) rfl <| dnil ?_
    exact hX _ (.putEq (by rw [hc2]; rfl) (.skip _ _ (.skip _ _ (.putEq (by rw [hc2]) (.refl _)) rfl) rfl))
  refine un1 rfl <| dnil ?_
  refine Sv.cond (b := ((decide ((c_.toNat : Int) = 58)) && (decide (0 < v9)))) rfl (fun hc3 => ?_) (fun hc3 => ?_)
  ·replace h := ifT hc3 h
   refine Sv.seq <| Sv.drawn <| un1 rfl <| un1 rfl ?_
   obtain ⟨r_, hx2, h⟩ := bnd h
   refine un1 (v := (S r_)) (s_slStr rfl rfl rfl hx2) <| un1 rfl <| un1 rfl <| un1 (v := (I (wi (v9 + 1)))) rfl ?_
   obtain ⟨r_1, hx3, h⟩ := bnd h
   refine un1 (v := (S r_1)) (s_slStr rfl rfl rfl hx3) ?_
   obtain ⟨r_2, hr1, h⟩ := bnd h
   refine un <| ac_pure (url_small_ok hr1) rfl rfl rfl <| un1 rfl <| un1 rfl <| un1 rfl <| dnil <| Sv.ret ?_
   replace h := Option.some.inj h
   subst h
   exact hr _ ⟨_, .refl _, _, rfl, ⟨upd e0 0 (some (.tup [(S r_2), (S r_1), (B true)])), e0, 0⟩, (.tup [(S r_2), (S r_1), (B true)]), weak_canon [] rfl List.nodup_nil (Nat.le_refl _) nlz (.cons rfl (avAs_tup (.cons (avAs_free rfl) (.cons (avAs_free rfl) (.cons (avAs_free rfl) .nil)))) .nil) .nil, rfl, rfl, rfl, rfl⟩
  ·replace h := ifF hc3 h
   refine ssr <| un1 rfl <| un <| ac_pure (url_letter_ok (mL := mL) (c_.toNat : Int)) rfl rfl rfl <| un1 (v := (B (!(url_letter (c_.toNat : Int))))) rfl <| un1 rfl ?_
   refine split2 (fun hc5 => ?_) (fun hc5 => ?_)
   ·replace h := ifT hc5 h
    refine gt rfl <| a1 rfl <| gt rfl <| a1 (v := (B (decide (v9 = 0)))) rfl <| gt rfl <| a1 rfl ?_
    refine split2 (fun hc6 => ?_) (fun hc6 => ?_)
    ·replace h := ifT hc6 h
     refine gs rfl rfl <| gs rfl rfl <| gs rfl rfl <| gt rfl <| a1 (v := (B true)) rfl <| un1 (v := (B true)) rfl <| un1 rfl <| dnil ?_
     exact Sv.weak (wcn [] rfl (.cf rfl rfl (.cf rfl rfl (.cf rfl rfl (.cf rfl rfl .nil)))) .nil) (url_scheme_j3_ok h hself hK0 hr)
    ·replace h := ifF hc6 h
     refine gt rfl <| a1 rfl ?_
     obtain ⟨r_3, hr2, h⟩ := bnd h
     refine gt rfl <| ac_pure (url_in_ok hr2) rfl rfl rfl <| gt rfl <| a1 (v := (B (!r_3))) rfl <| gt rfl <| a1 (v := (B (!r_3))) rfl <| un1 (v := (B (!r_3))) rfl <| un1 rfl <| dnil ?_
     exact Sv.weak (wcn [] rfl (.cf rfl rfl (.cf rfl rfl (.cf rfl rfl (.cf rfl rfl .nil)))) .nil) (url_scheme_j3_ok h hself hK0 hr)
   ·replace h := ifF hc5 h
    refine gs rfl rfl <| gs rfl rfl <| gs rfl rfl <| gu rfl <| gu rfl <| gu rfl <| gs rfl rfl <| un1 (v := (B false)) rfl <| un1 rfl <| dnil ?_
    exact Sv.weak (wcn [] rfl (.cf rfl rfl (.cf rfl rfl (.cf rfl rfl (.cf rfl rfl .nil)))) .nil) (url_scheme_j3_ok h hself hK0 hr)
 ·replace h := ifF hc1 h
  refine Sv.exit ?_
  exact hK0 () h _ (wcn [] rfl .nil .nil)
/-- clerestory/url.scheme -/
noncomputable def url_scheme (s_ : Tx) : Option (Tx × Tx × Bool) :=
 lim fun kk => url_scheme_l0 s_ (fun (_ : Unit) => 
   some ([], [], false)) kk 0
theorem url_scheme_ok {mL : Int} {s_ : Tx} {r : (Tx × Tx × Bool)} (h : url_scheme s_ = some r) : CPure Tryz.prog (GG mL) 17 [(S s_)] (.tup [(S r.1), (S r.2.1), (B r.2.2)]) := by
 refine acalls_of_sv hmix c17 (R := url_scheme_post r) ?_
 unfold url_scheme at h
 refine ssr <| un1 rfl <| un1 rfl <| un1 rfl <| dnil <| Sv.seq <| ssr <| un1 rfl <| un1 (v := (I (s_.length : Int))) rfl <| un1 rfl <| dnil <| Sv.block ?_
 obtain ⟨kk, h⟩ := lim_some h
 refine Sv.weak (wcn [] rfl (.cf rfl rfl (.cf rfl rfl (.cf rfl rfl .nil))) .nil) (url_scheme_l0_ok h ?_ (fun s hs => hs))
 ·intro _ h _ hw1
  refine Sv.weak hw1 <| ssr <| un1 rfl <| un1 rfl <| un1 rfl <| dnil <| Sv.ret ?_
  replace h := Option.some.inj h
  subst h
  exact ⟨_, .refl _, _, rfl, ⟨upd e0 0 (some (.tup [(S []), (S []), (B false)])), e0, 0⟩, (.tup [(S []), (S []), (B false)]), weak_canon [] rfl List.nodup_nil (Nat.le_refl _) nlz (.cons rfl (avAs_tup (.cons (avAs_free rfl) (.cons (avAs_free rfl) (.cons (avAs_free rfl) .nil)))) .nil) .nil, rfl, rfl, rfl, rfl⟩
def a59_c0 : ACode := .ret
def a59 : AFunc := ⟨2, [(.tmp 4)], (.seq (.region [⟨(some 4), (.mov (.const (.c (.val (.bool false))))), none⟩])
 (.seq (.region [(mV 5 0), (oP 6 (.lenS (.tmp 5))), (mV 7 1), (oP 8 (.lenS (.tmp 7))), (oP 9 (.bin .geq (.tmp 6) (.tmp 8))), (mV 10 9), ⟨(some 11), (.mov (.tmp 0)), (some (10, true))⟩, ⟨(some 12), (.mov (.tmp 1)), (some (10, true))⟩, ⟨(some 13), (.lenS (.tmp 12)), (some (10, true))⟩, ⟨(some 14), (.slStr (.tmp 11) none (some (.tmp 13))), (some (10, true))⟩, ⟨(some 15), (.mov (.tmp 1)), (some (10, true))⟩, ⟨(some 16), (.bin .eql (.tmp 14) (.tmp 15)), (some (10, true))⟩, ⟨(some 17), (.pick (.tmp 10) (.tmp 16) (.const (.c (.val (.bool false))))), none⟩, (mV 4 17)])
 a59_c0))⟩
set_option maxRecDepth 100000 in
theorem c59 : compFunc Tryz.prog 59 = some a59 := by kernel_rfl
def sl_HasPrefix_post (r : Bool) : AV → Heap → Nat → Prop := fun v h' n' => v = (B r) ∧ (h' = e0) ∧ n' = 0
noncomputable def sl_HasPrefix_j1 (v4 : Bool) : Option Bool :=
 some v4
theorem sl_HasPrefix_j1_ok {mL : Int} {v4 : Bool} {o : Bool} (h : sl_HasPrefix_j1 v4 = some o) :
  Sv Tryz.prog (GG mL) 0 a59_c0 (Ends a59.results 0 (sl_HasPrefix_post o)) ⟨(upd e0 4 (some (B v4))), e0, 0⟩ := by
 unfold sl_HasPrefix_j1 at h
 refine Sv.ret ?_
 replace h := Option.some.inj h
 subst h
 exact ⟨_, .refl _, _, rfl, ⟨upd e0 0 (some (B v4)), e0, 0⟩, (B v4), weak_canon [] rfl List.nodup_nil (Nat.le_refl _) nlz (.cf rfl rfl .nil) .nil, rfl, rfl, rfl, rfl⟩
/-- internal/stringslite.HasPrefix -/
noncomputable def sl_HasPrefix (s_ : Tx) (prefix_ : Tx) : Option Bool :=
 if decide ((prefix_.length : Int) ≤ (s_.length : Int)) then
  (sub? s_ 0 (prefix_.length : Int)).bind fun r_ =>
  sl_HasPrefix_j1 (decide (r_ = prefix_))
 else
  sl_HasPrefix_j1 false
theorem sl_HasPrefix_ok {mL : Int} {s_ : Tx} {prefix_ : Tx} {r : Bool} (h : sl_HasPrefix s_ prefix_ = some r) : CPure Tryz.prog (GG mL) 59 [(S s_), (S prefix_)] (B r) := by
 refine acalls_of_sv hmix c59 (R := sl_HasPrefix_post r) ?_
 unfold sl_HasPrefix at h
 refine ssr <| un1 rfl <| dnil <| ssr <| un1 rfl <| un1 (v := (I (s_.length : Int))) rfl <| un1 rfl <| un1 (v := (I (prefix_.length : Int))) rfl <| un1 (v := (B (decide ((prefix_.length : Int) ≤ (s_.length : Int))))) rfl <| un1 rfl ?_
 refine split2 (fun hc1 => ?_) (fun hc1 => ?_)
 ·replace h := ifT hc1 h
  refine gt rfl <| a1 rfl <| gt rfl <| a1 rfl <| gt rfl <| a1 (v := (I (prefix_.length : Int))) rfl ?_
  obtain ⟨r_, hx1, h⟩ := bnd h
  refine gt rfl <| a1 (v := (S r_)) (s_slStr rfl rfl rfl hx1) <| gt rfl <| a1 rfl <| gt rfl <| a1 (v := (B (decide (r_ = prefix_)))) rfl <| un1 (v := (B (decide (r_ = prefix_)))) rfl <| un1 rfl <| dnil ?_
  exact Sv.weak (wcn [] rfl (.cf rfl rfl .nil) .nil) (sl_HasPrefix_j1_ok h)
 ·replace h := ifF hc1 h
  refine gs rfl rfl <| gs rfl rfl <| gs rfl rfl <| gs rfl rfl <| gs rfl rfl <| gs rfl rfl <| un1 (v := (B false)) rfl <| un1 rfl <| dnil ?_
  exact Sv.weak (wcn [] rfl (.cf rfl rfl .nil) .nil) (sl_HasPrefix_j1_ok h)
def a44 : AFunc := ⟨2, [(.tmp 4), (.tmp 5)], (.seq (.region [⟨(some 4), (.mov (.const (.c (.str [])))), none⟩, ⟨(some 5), (.mov (.const (.c (.val (.bool false))))), none⟩])
 (.seq (.seq (.region [(mV 6 0), (mV 7 1), (oP 8 (.call 59 [(.tmp 6), (.tmp 7)])), (oP 9 (.un .not (.tmp 8)))])
 (.cond (.tmp 9) (.seq (.region [(mV 10 0), (mV 4 10), ⟨(some 5), (.mov (.const (.c (.val (.bool false))))), none⟩])
 .ret) .skip))
 (.seq (.region [(mV 11 0), (mV 12 1), (oP 13 (.lenS (.tmp 12))), (oP 14 (.slStr (.tmp 11) (some (.tmp 13)) none)), (mV 4 14), ⟨(some 5), (.mov (.const (.c (.val (.bool true))))), none⟩])
 .ret)))⟩
set_option maxRecDepth 100000 in
theorem c44 : compFunc Tryz.prog 44 = some a44 := by kernel_rfl
def sl_CutPrefix_post (r : (Tx × Bool)) : AV → Heap → Nat → Prop := fun v h' n' => v = (.tup [(S r.1), (B r.2)]) ∧ (h' = e0) ∧ n' = 0
/-- internal/stringslite.CutPrefix -/
noncomputable def sl_CutPrefix (s_ : Tx) (prefix_ : Tx) : Option (Tx × Bool) :=
 (sl_HasPrefix s_ prefix_).bind fun r_ =>
 if (!r_) then
  some (s_, false)
 else
  (sub? s_ (prefix_.length : Int) (s_.length : Int)).bind fun r_1 =>
  some (r_1, true)
theorem sl_CutPrefix_ok {mL : Int} {s_ : Tx} {prefix_ : Tx} {r : (Tx × Bool)} (h : sl_CutPrefix s_ prefix_ = some r) : CPure Tryz.prog (GG mL) 44 [(S s_), (S prefix_)] (.tup [(S r.1), (B r.2)]) := by
 refine acalls_of_sv hmix c44 (R := sl_CutPrefix_post r) ?_
 unfold sl_CutPrefix at h
 refine ssr <| un1 rfl <| un1 rfl <| dnil <| Sv.seq <| ssr <| un1 rfl <| un1 rfl ?_
 obtain ⟨r_, hr1, h⟩ := bnd h
 refine un <| ac_pure (sl_HasPrefix_ok hr1) rfl rfl rfl <| un1 (v := (B (!r_))) rfl <| dnil ?_
 refine Sv.cond (b := (!r_)) rfl (fun hc1 => ?_) (fun hc1 => ?_)
 ·replace h := ifT hc1 h
  refine ssr <| un1 rfl <| un1 rfl <| un1 rfl <| dnil <| Sv.ret ?_
  replace h := Option.some.inj h
  subst h
  exact ⟨_, .refl _, _, rfl, ⟨upd e0 0 (some (.tup [(S s_), (B false)])), e0, 0⟩, (.tup [(S s_), (B false)]), weak_canon [] rfl List.nodup_nil (Nat.le_refl _) nlz (.cons rfl (avAs_tup (.cons (avAs_free rfl) (.cons (avAs_free rfl) .nil))) .nil) .nil, rfl, rfl, rfl, rfl⟩
 ·replace h := ifF hc1 h
  refine Sv.skip <| ssr <| un1 rfl <| un1 rfl <| un1 (v := (I (prefix_.length : Int))) rfl ?_
  obtain ⟨r_1, hx1, h⟩ := bnd h
  refine un1 (v := (S r_1)) (s_slStr rfl rfl rfl hx1) <| un1 rfl <| un1 rfl <| dnil <| Sv.ret ?_
  replace h := Option.some.inj h
  subst h
  exact ⟨_, .refl _, _, rfl, ⟨upd e0 0 (some (.tup [(S r_1), (B true)])), e0, 0⟩, (.tup [(S r_1), (B true)]), weak_canon [] rfl List.nodup_nil (Nat.le_refl _) nlz (.cons rfl (avAs_tup (.cons (avAs_free rfl) (.cons (avAs_free rfl) .nil))) .nil) .nil, rfl, rfl, rfl, rfl⟩
def a18 : AFunc := ⟨2, [(.tmp 4), (.tmp 5)], (.seq (.region [⟨(some 4), (.mov (.const (.c (.str [])))), none⟩, ⟨(some 5), (.mov (.const (.c (.val (.bool false))))), none⟩])
 (.seq (.region [(mV 6 0), (mV 7 1), (oP 8 (.call 44 [(.tmp 6), (.tmp 7)])), (oP 9 (.ext (.tmp 8) 0)), (oP 10 (.ext (.tmp 8) 1)), (mV 4 9), (mV 5 10)])
 .ret))⟩
set_option maxRecDepth 100000 in
theorem c18 : compFunc Tryz.prog 18 = some a18 := by kernel_rfl
def strings_CutPrefix_post (r : (Tx × Bool)) : AV → Heap → Nat → Prop := fun v h' n' => v = (.tup [(S r.1), (B r.2)]) ∧ (h' = e0) ∧ n' = 0
/-- strings.CutPrefix -/
noncomputable def strings_CutPrefix (s_ : Tx) (prefix_ : Tx) : Option (Tx × Bool) :=
 (sl_CutPrefix s_ prefix_).bind fun r_ =>
 some (r_.1, r_.2)
theorem strings_CutPrefix_ok {mL : Int} {s_ : Tx} {prefix_ : Tx} {r : (Tx × Bool)} (h : strings_CutPrefix s_ prefix_ = some r) : CPure Tryz.prog (GG mL) 18 [(S s_), (S prefix_)] (.tup [(S r.1), (B r.2)]) := by
 refine acalls_of_sv hmix c18 (R := strings_CutPrefix_post r) ?_
 unfold strings_CutPrefix at h
 refine ssr <| un1 rfl <| un1 rfl <| dnil <| ssr <| un1 rfl <| un1 rfl ?_
 obtain ⟨r_, hr1, h⟩ := bnd h
 refine un <| ac_pure (sl_CutPrefix_ok hr1) rfl rfl rfl <| un1 (v := (S r_.1)) rfl <| un1 (v := (B r_.2)) rfl <| un1 rfl <| un1 rfl <| dnil <| Sv.ret ?_
 replace h := Option.some.inj h
 subst h
 exact ⟨_, .refl _, _, rfl, ⟨upd e0 0 (some (.tup [(S r_.1), (B r_.2)])), e0, 0⟩, (.tup [(S r_.1), (B r_.2)]), weak_canon [] rfl List.nodup_nil (Nat.le_refl _) nlz (.cons rfl (avAs_tup (.cons (avAs_free rfl) (.cons (avAs_free rfl) .nil))) .nil) .nil, rfl, rfl, rfl, rfl⟩
noncomputable abbrev strings_IndexAny (s_ : Tx) (chars_ : Tx) : Option Int := indexAny? s_ chars_
/-- strings.IndexAny, by the contract of the shelf -/
theorem strings_IndexAny_ok {mL : Int} {s_ : Tx} {chars_ : Tx} {r : Int} (h : strings_IndexAny s_ chars_ = some r) : CPure Tryz.prog (GG mL) 19 [(S s_), (S chars_)] (I r) := indexAny_ok Tryz.lays153 (by kernel_rfl) h
noncomputable abbrev strings_Cut (s_ : Tx) (sep_ : Tx) : Option (Tx × Tx × Bool) := cut? s_ sep_
/-- strings.Cut, by the contract of the shelf -/
theorem strings_Cut_ok {mL : Int} {s_ : Tx} {sep_ : Tx} {r : (Tx × Tx × Bool)} (h : strings_Cut s_ sep_ = some r) : CPure Tryz.prog (GG mL) 49 [(S s_), (S sep_)] (.tup [(S r.1), (S r.2.1), (B r.2.2)]) := cut_ok (m := mL) Tryz.lays145 rfl h
noncomputable abbrev strings_Split (s_ : Tx) (sep_ : Tx) : Option TT := split? s_ sep_
/-- strings.Split, by the contract of the shelf -/
theorem strings_Split_ok {mL : Int} {s_ : Tx} {sep_ : Tx} {r : TT} (h : strings_Split s_ sep_ = some r) : ACalls Tryz.prog (GG mL) 55 [(S s_), (S sep_)] e0 0 (fun v h' n' => ∃ z : Bool, (z = true → r = []) ∧ v = lstV z 0 1 r.length ∧ (h' = (upd e0 0 (lstB z 1 (r.map eStr)))) ∧ n' = 1) := split_ok (m := mL) Tryz.lays146 (by kernel_rfl) rfl h
noncomputable abbrev strings_Trim (s_ : Tx) (cutset_ : Tx) : Option Tx := trim? s_ cutset_
/-- strings.Trim, by the contract of the shelf -/
theorem strings_Trim_ok {mL : Int} {s_ : Tx} {cutset_ : Tx} {r : Tx} (h : strings_Trim s_ cutset_ = some r) : CPure Tryz.prog (GG mL) 51 [(S s_), (S cutset_)] (S r) := trim_ok Tryz.lays160 (by kernel_rfl) h
def a50_c0 : ACode := (.cond (.tmp 21) (.seq (.region [⟨(some 2), (.mov (.const (.c (.val (.bool false))))), none⟩])
 .ret) .skip)
def a50_c1 : ACode := (.region [⟨(some 22), (.bin .add (.tmp 11) (kI 1)), none⟩, (mV 11 22)])
def a50_c2 : ACode := (.seq (.region [(oP 12 (.bin .lss (.tmp 11) (.tmp 10)))])
 (.seq (.cond (.tmp 12) .skip (.exit 0))
 (.seq (.block 1 (.seq (.region [(oP 13 (.iaddr 1 (.tmp 9) (.tmp 11))), (oP 14 (.load false 1 (.tmp 13))), (mV 4 14)])
 (.seq (.region [(mV 15 4), ⟨(some 16), (.bin .eql (.tmp 15) (.const (.c (.str [])))), none⟩, (mV 17 16), ⟨(some 18), (.mov (.tmp 4)), (some (17, false))⟩, ⟨(some 19), (.call 51 [(.tmp 18), (.const (.c (.str [97, 98, 99, 100, 101, 102, 103, 104, 105, 106, 107, 108, 109, 110, 111, 112, 113, 114, 115, 116, 117, 118, 119, 120, 121, 122, 48, 49, 50, 51, 52, 53, 54, 55, 56, 57, 45])))]), (some (17, false))⟩, ⟨(some 20), (.bin .neq (.tmp 19) (.const (.c (.str [])))), (some (17, false))⟩, ⟨(some 21), (.pick (.tmp 17) (.const (.c (.val (.bool true)))) (.tmp 20)), none⟩])
 a50_c0)))
 a50_c1)))
def a50 : AFunc := ⟨1, [(.tmp 2)], (.seq (.region [⟨(some 2), (.mov (.const (.c (.val (.bool false))))), none⟩])
 (.seq (.seq (.region [(mV 5 0), (oP 6 (.lenS (.tmp 5))), ⟨(some 7), (.bin .gtr (.tmp 6) (kI 100)), none⟩])
 (.cond (.tmp 7) (.seq (.region [⟨(some 2), (.mov (.const (.c (.val (.bool false))))), none⟩])
 .ret) .skip))
 (.seq (.seq (.region [(mV 8 0), ⟨(some 9), (.call 55 [(.tmp 8), (.const (.c (.str [46])))]), none⟩, (oP 10 (.len (.tmp 9))), ⟨(some 11), (.mov (kI 0)), none⟩])
 (.block 0 (.loop a50_c2)))
 (.seq (.region [⟨(some 2), (.mov (.const (.c (.val (.bool true))))), none⟩])
 .ret))))⟩
set_option maxRecDepth 100000 in
theorem c50 : compFunc Tryz.prog 50 = some a50 := by kernel_rfl
def url_host_post (r : Bool) : AV → Heap → Nat → Prop := fun v h' n' => v = (B r) ∧ (h' = e0) ∧ n' = 0
abbrev url_host_q0 (mL : Int) (Q : AExit → St → Prop) : AExit → St → Prop := AThen (Sv Tryz.prog (GG mL) 0 a50_c1 Q) Q
abbrev url_host_q1 (mL : Int) (Q : AExit → St → Prop) : AExit → St → Prop := ABlock 1 (url_host_q0 mL Q)
noncomputable def url_host_j3 (v11 : Int) (r_ : TT) (self : TT → Int → Option Bool) (K0_ : Unit → Option Bool) (v91 : TT) (v21 : Bool) : Option Bool :=
 if v21 then
  some false
 else
  self v91 (wi (v11 + 1))
theorem url_host_j3_ok {mL : Int} {Q : AExit → St → Prop} {v11 : Int} {r_ : TT} {self : TT → Int → Option Bool} {K0_ : Unit → Option Bool} {v91 : TT} {v21 : Bool} {zv91 : Bool} (hzv91 : zv91 = true → v91 = []) {o : Bool} (h : url_host_j3 v11 r_ self K0_ v91 v21 = some o)
  (hself : ∀ (v9 : TT) (v11 : Int) (zv9 : Bool) (_ : zv9 = true → v9 = []), self v9 v11 = some o → ∀ s, Weak 0 s ⟨(upd (upd (upd e0 9 (some (lstV zv9 0 1 v9.length))) 10 (some (I (r_.length : Int)))) 11 (some (I v11))), (upd e0 0 (lstB zv9 1 (v9.map eStr))), 1⟩ → (Q) .normal s)
  (hK0 : ∀ (_ : Unit), K0_ () = some o → ∀ s, Weak 0 s ⟨e0, e0, 0⟩ → Q (.exit 0) s)
  (hr : ∀ s, Ends a50.results 0 (url_host_post o) .ret s → Q .ret s) :
  Sv Tryz.prog (GG mL) 0 a50_c0 (url_host_q1 mL Q) ⟨(upd (upd (upd (upd e0 9 (some (lstV zv91 0 1 v91.length))) 10 (some (I (r_.length : Int)))) 11 (some (I v11))) 21 (some (B v21))), (upd e0 0 (lstB zv91 1 (v91.map eStr))), 1⟩ := by
 unfold url_host_j3 at h
 refine Sv.cond (b := v21) rfl (fun hc3 => ?_) (fun hc3 => ?_)
 ·replace h := ifT hc3 h
  refine ssr <| un1 rfl <| dnil <| Sv.ret ?_
  replace h := Option.some.inj h
  subst h
  exact hr _ ⟨_, .refl _, _, rfl, ⟨upd e0 0 (some (B false)), e0, 0⟩, (B false), weak_canon [] rfl List.nodup_nil (Nat.le_refl _) nlz (.cf rfl rfl .nil) .nil, rfl, rfl, rfl, rfl⟩
 ·replace h := ifF hc3 h
  refine Sv.skip <| srg <| un1 (v := (I (wi (v11 + 1)))) rfl <| un1 rfl <| dnil ?_
  exact hself v91 (wi (v11 + 1)) zv91 hzv91 h _ (wcn [0] rfl (.cf rfl rfl (.cf rfl rfl (.cons rfl (.c (lstC_ren rfl (by decide))) .nil))) (.row (by decide) rfl (fr_map fun _ => rfl) .nil))
noncomputable def url_host_l0 (r_ : TT) (K0_ : Unit → Option Bool) : Nat → TT → Int → Option Bool
 | 0, _, _ => none
 | k + 1, v9, v11 =>
  if decide (v11 < (r_.length : Int)) then
   (at? v9 v11).bind fun x_ =>
   if decide (x_ = []) then
    url_host_j3 v11 r_ (url_host_l0 r_ K0_ k) K0_ v9 true
   else
    (strings_Trim x_ [97, 98, 99, 100, 101, 102, 103, 104, 105, 106, 107, 108, 109, 110, 111, 112, 113, 114, 115, 116, 117, 118, 119, 120, 121, 122, 48, 49, 50, 51, 52, 53, 54, 55, 56, 57, 45]).bind fun r_1 =>
    url_host_j3 v11 r_ (url_host_l0 r_ K0_ k) K0_ v9 (!decide (r_1 = []))
  else
   K0_ ()
theorem url_host_l0_ok {mL : Int} {Q : AExit → St → Prop} {r_ : TT} {K0_ : Unit → Option Bool} {k : Nat} {v9 : TT} {v11 : Int} {zv9 : Bool} (hzv9 : zv9 = true → v9 = []) {o : Bool} (h : url_host_l0 r_ K0_ k v9 v11 = some o)
  (hK0 : ∀ (_ : Unit), K0_ () = some o → ∀ s, Weak 0 s ⟨e0, e0, 0⟩ → Q (.exit 0) s)
  (hr : ∀ s, Ends a50.results 0 (url_host_post o) .ret s → Q .ret s) :
  Sv Tryz.prog (GG mL) 0 (.loop a50_c2) Q ⟨(upd (upd (upd e0 9 (some (lstV zv9 0 1 v9.length))) 10 (some (I (r_.length : Int)))) 11 (some (I v11))), (upd e0 0 (lstB zv9 1 (v9.map eStr))), 1⟩ := by
 refine Sv.loop (I := fun k s => ∃ (v9 : TT), ∃ (v11 : Int), ∃ (zv9 : Bool), (zv9 = true → v9 = []) ∧ url_host_l0 r_ K0_ k v9 v11 = some o ∧ s = ⟨(upd (upd (upd e0 9 (some (lstV zv9 0 1 v9.length))) 10 (some (I (r_.length : Int)))) 11 (some (I v11))), (upd e0 0 (lstB zv9 1 (v9.map eStr))), 1⟩) (fun k s hI => ?_) ⟨v9, v11, zv9, hzv9, h, rfl⟩
 clear h
 clear hzv9 zv9 v11 v9
 obtain ⟨v9, v11, zv9, hzv9, h, rfl⟩ := hI
 cases k with
 | zero => cases h
 | succ k =>
 rw [url_host_l0] at h
 have hself : ∀ (v9 : TT) (v11 : Int) (zv9 : Bool) (_ : zv9 = true → v9 = []), (url_host_l0 r_ K0_ k) v9 v11 = some o → ∀ s, Weak 0 s ⟨(upd (upd (upd e0 9 (some (lstV zv9 0 1 v9.length))) 10 (some (I (r_.length : Int)))) 11 (some (I v11))), (upd e0 0 (lstB zv9 1 (v9.map eStr))), 1⟩ → (AThen (fun s' => ∃ s'' k', Weak 0 s' s'' ∧ k' < k + 1 ∧ (fun k s => ∃ (v9 : TT), ∃ (v11 : Int), ∃ (zv9 : Bool), (zv9 = true → v9 = []) ∧ url_host_l0 r_ K0_ k v9 v11 = some o ∧ s = ⟨(upd (upd (upd e0 9 (some (lstV zv9 0 1 v9.length))) 10 (some (I (r_.length : Int)))) 11 (some (I v11))), (upd e0 0 (lstB zv9 1 (v9.map eStr))), 1⟩) k' s'') Q) .normal s := fun v9 v11 zv9 hzv9 h s hw => ⟨_, k, hw, Nat.lt_succ_self k, v9, v11, zv9, hzv9, h, rfl⟩
 refine ssr <| un1 (v := (B (decide (v11 < (r_.length : Int))))) rfl <| dnil <| Sv.seq ?_
 refine Sv.cond (b := decide (v11 < (r_.length : Int))) rfl (fun hc2 => ?_) (fun hc2 => ?_)
 ·replace h := ifT hc2 h
  refine Sv.skip <| Sv.seq <| Sv.block <| ssr ?_
  obtain ⟨x_, hx1, h⟩ := bnd h
  refine un1 (v := (.c (.ref 0 1 v11.toNat 0))) (s_iaddrL rfl rfl hzv9 hx1) <| un1 (v := (S x_)) (s_loadL (z := zv9) (e := eStr) rfl rfl hzv9 hx1 rfl rfl) <| un1 rfl <| dnil <| ssr <| un1 rfl <| un1 (v := (B (decide (x_ = [])))) rfl <| un1 rfl ?_
  refine split2 (fun hc4 => ?_) (fun hc4 => ?_)
  ·replace h := ifT hc4 h
   refine gs rfl rfl <| gs rfl rfl <| gs rfl rfl <| un1 (v := (B true)) rfl <| dnil ?_
   exact Sv.weak (wcn [0] rfl (.cf rfl rfl (.cf rfl rfl (.cf rfl rfl (.cons rfl (.c (lstC_ren rfl (by decide))) .nil)))) (.row (by decide) rfl (fr_map fun _ => rfl) .nil)) (url_host_j3_ok hzv9 h hself hK0 hr)
  ·replace h := ifF hc4 h
   refine gt rfl <| a1 rfl ?_
   obtain ⟨r_1, hr2, h⟩ := bnd h
   refine gt rfl <| ac_pure (strings_Trim_ok hr2) rfl rfl rfl <| gt rfl <| a1 (v := (B (!decide (r_1 = [])))) rfl <| un1 (v := (B (!decide (r_1 = [])))) rfl <| dnil ?_
   exact Sv.weak (wcn [0] rfl (.cf rfl rfl (.cf rfl rfl (.cf rfl rfl (.cons rfl (.c (lstC_ren rfl (by decide))) .nil)))) (.row (by decide) rfl (fr_map fun _ => rfl) .nil)) (url_host_j3_ok hzv9 h hself hK0 hr)
 ·replace h := ifF hc2 h
  refine Sv.exit ?_
  exact hK0 () h _ (wcn [] rfl .nil .nil)
/-- clerestory/url.host -/
noncomputable def url_host (s_ : Tx) : Option Bool :=
 if decide (100 < (s_.length : Int)) then
  some false
 else
  (strings_Split s_ [46]).bind fun r_ =>
  lim fun kk => url_host_l0 r_ (fun (_ : Unit) => 
    some true) kk r_ 0
theorem url_host_ok {mL : Int} {s_ : Tx} {r : Bool} (h : url_host s_ = some r) : CPure Tryz.prog (GG mL) 50 [(S s_)] (B r) := by
 refine acalls_of_sv hmix c50 (R := url_host_post r) ?_
 unfold url_host at h
 refine ssr <| un1 rfl <| dnil <| Sv.seq <| ssr <| un1 rfl <| un1 (v := (I (s_.length : Int))) rfl <| un1 (v := (B (decide (100 < (s_.length : Int))))) rfl <| dnil ?_
 refine Sv.cond (b := decide (100 < (s_.length : Int))) rfl (fun hc1 => ?_) (fun hc1 => ?_)
 ·replace h := ifT hc1 h
  refine ssr <| un1 rfl <| dnil <| Sv.ret ?_
  replace h := Option.some.inj h
  subst h
  exact ⟨_, .refl _, _, rfl, ⟨upd e0 0 (some (B false)), e0, 0⟩, (B false), weak_canon [] rfl List.nodup_nil (Nat.le_refl _) nlz (.cf rfl rfl .nil) .nil, rfl, rfl, rfl, rfl⟩
 ·replace h := ifF hc1 h
  refine Sv.skip <| Sv.seq <| ssr <| un1 rfl ?_
  obtain ⟨r_, hr1, h⟩ := bnd h
  refine un <| ac_gen (bs := []) («as» := [(S s_), (S [46])]) (h2 := _) (h1 := e0) (strings_Split_ok hr1) rfl (.cons (avAs_free rfl) (.cons (avAs_free rfl) .nil)) (hsub_refl _) (.nil _) (fun _ => rfl) (by decide) (by decide) (.cons (avAs_free rfl) (.cons (avAs_free rfl) .nil)) .nil ?_
  rintro _ _ _ hn ⟨z_, hz_, rfl, rfl, rfl⟩
  refine ⟨.inl rfl, (upd (rem [] _) 0 (lstB z_ 1 (r_.map eStr))), fun hbd => (m3_cons (m3_row rfl (fr_map fun _ => rfl)) (m3_rem (in_nil _) (.cons (by decide) .nil) hbd)), (lstV z_ 0 1 r_.length), 1, (by cases z_ <;> rfl), rfl, ?_⟩
  refine un1 (v := (I (r_.length : Int))) (s_lenL rfl (len_nil_of hz_)) <| un1 rfl <| dnil <| Sv.block ?_
  obtain ⟨kk, h⟩ := lim_some h
  refine Sv.weak (wcn [0] rfl (.cf rfl rfl (.cf rfl rfl (.cons rfl (.c (lstC_ren rfl (by decide))) .nil))) (.row (by decide) rfl (fr_map fun _ => rfl) .nil)) (url_host_l0_ok hz_ h ?_ (fun s hs => hs))
  ·intro _ h _ hw1
   refine Sv.weak hw1 <| ssr <| un1 rfl <| dnil <| Sv.ret ?_
   replace h := Option.some.inj h
   subst h
   exact ⟨_, .refl _, _, rfl, ⟨upd e0 0 (some (B true)), e0, 0⟩, (B true), weak_canon [] rfl List.nodup_nil (Nat.le_refl _) nlz (.cf rfl rfl .nil) .nil, rfl, rfl, rfl, rfl⟩
noncomputable abbrev strconv_Atoi (s_ : Tx) : Option (Int × Bool) := atoi? s_
/-- strconv.Atoi, by the contract of the shelf -/
theorem strconv_Atoi_ok {mL : Int} {s_ : Tx} {r : (Int × Bool)} (h : strconv_Atoi s_ = some r) : CPure Tryz.prog (GG mL) 52 [(S s_)] (.tup [(I r.1), (.c (errC r.2))]) := atoi_ok Tryz.laysC172 (by kernel_rfl) (by kernel_rfl) h
def a53 : AFunc := ⟨1, [(.tmp 2)], (.seq (.region [⟨(some 2), (.mov (kI 0)), none⟩])
 (.seq (.seq (.region [(mV 3 0)])
 (.block 0 (.seq (.region [⟨(some 5), (.bin .eql (.tmp 3) (.const (.c (.str [104, 116, 116, 112])))), none⟩, (mV 4 5)])
 (.cond (.tmp 4) (.seq (.region [⟨(some 2), (.mov (kI 80)), none⟩])
 .ret) (.seq (.region [⟨(some 7), (.bin .eql (.tmp 3) (.const (.c (.str [104, 116, 116, 112, 115])))), none⟩, (mV 6 7)])
 (.cond (.tmp 6) (.seq (.region [⟨(some 2), (.mov (kI 443)), none⟩])
 .ret) .skip))))))
 (.seq (.region [⟨(some 2), (.mov (kI 0)), none⟩])
 .ret)))⟩
set_option maxRecDepth 100000 in
theorem c53 : compFunc Tryz.prog 53 = some a53 := by kernel_rfl
def url_own_post (r : Int) : AV → Heap → Nat → Prop := fun v h' n' => v = (I r) ∧ (h' = e0) ∧ n' = 0
/-- clerestory/url.own -/
def url_own (scheme : Tx) : Int :=
 if decide (scheme = [104, 116, 116, 112]) then
  80
 else
  if decide (scheme = [104, 116, 116, 112, 115]) then
   443
  else
   0
theorem url_own_ok {mL : Int} (scheme : Tx) : CPure Tryz.prog (GG mL) 53 [(S scheme)] (I (url_own scheme)) := by
 generalize h : url_own scheme = o
 refine acalls_of_sv hmix c53 (R := url_own_post o) ?_
 unfold url_own at h
 refine ssr <| un1 rfl <| dnil <| Sv.seq <| ssr <| un1 rfl <| dnil <| Sv.block <| ssr <| un1 (v := (B (decide (scheme = [104, 116, 116, 112])))) rfl <| un1 rfl <| dnil ?_
 refine Sv.cond (b := decide (scheme = [104, 116, 116, 112])) rfl (fun hc1 => ?_) (fun hc1 => ?_)
 ·replace h := ifT hc1 h
  refine ssr <| un1 rfl <| dnil <| Sv.ret ?_
  subst h
  exact ⟨_, .refl _, _, rfl, ⟨upd e0 0 (some (I 80)), e0, 0⟩, (I 80), weak_canon [] rfl List.nodup_nil (Nat.le_refl _) nlz (.cf rfl rfl .nil) .nil, rfl, rfl, rfl, rfl⟩
 ·replace h := ifF hc1 h
  refine ssr <| un1 (v := (B (decide (scheme = [104, 116, 116, 112, 115])))) rfl <| un1 rfl <| dnil ?_
  refine Sv.cond (b := decide (scheme = [104, 116, 116, 112, 115])) rfl (fun hc2 => ?_) (fun hc2 => ?_)
  ·replace h := ifT hc2 h
   refine ssr <| un1 rfl <| dnil <| Sv.ret ?_
   subst h
   exact ⟨_, .refl _, _, rfl, ⟨upd e0 0 (some (I 443)), e0, 0⟩, (I 443), weak_canon [] rfl List.nodup_nil (Nat.le_refl _) nlz (.cf rfl rfl .nil) .nil, rfl, rfl, rfl, rfl⟩
  ·replace h := ifF hc2 h
   refine Sv.skip <| ssr <| un1 rfl <| dnil <| Sv.ret ?_
   subst h
   exact ⟨_, .refl _, _, rfl, ⟨upd e0 0 (some (I 0)), e0, 0⟩, (I 0), weak_canon [] rfl List.nodup_nil (Nat.le_refl _) nlz (.cf rfl rfl .nil) .nil, rfl, rfl, rfl, rfl⟩
def a20_c0 : ACode := (.cond (.tmp 41) (.seq (.region [⟨(some 4), (.mov (.const (.c (.val (.bool false))))), none⟩])
 .ret) .skip)
def a20_c1 : ACode := (.seq (.region [⟨(some 4), (.mov (.const (.c (.val (.bool true))))), none⟩])
 .ret)
def a20_c2 : ACode := (.seq (.region [(mV 43 6), (oP 44 (.call 52 [(.tmp 43)])), (mV 42 44), (oP 45 (.ext (.tmp 42) 0)), (oP 46 (.ext (.tmp 42) 1)), (mV 8 45), (mV 9 46)])
 (.seq (.seq (.region [(mV 47 8), ⟨(some 48), (.bin .lss (.tmp 47) (kI 1)), none⟩, (mV 49 48), ⟨(some 50), (.mov (.tmp 8)), (some (49, false))⟩, ⟨(some 51), (.bin .gtr (.tmp 50) (kI 65535)), (some (49, false))⟩, ⟨(some 52), (.pick (.tmp 49) (.const (.c (.val (.bool true)))) (.tmp 51)), none⟩])
 (.cond (.tmp 52) (.seq (.region [⟨(some 4), (.mov (.const (.c (.val (.bool false))))), none⟩])
 .ret) .skip))
 (.seq (.seq (.region [(mV 53 8), (mV 54 0), (oP 55 (.nilc (.tmp 54))), (oP 56 (.faddr 0 (.tmp 55))), (oP 57 (.load false 1 (.tmp 56))), (oP 58 (.call 53 [(.tmp 57)])), (oP 59 (.bin .neq (.tmp 53) (.tmp 58)))])
 (.cond (.tmp 59) (.region [(mV 60 0), (mV 61 8), (oP 62 (.nilc (.tmp 60))), (oP 63 (.faddr 2 (.tmp 62))), ⟨none, (.store 1 (.tmp 63) (.tmp 61)), none⟩]) .skip))
 a20_c1)))
def a20 : AFunc := ⟨2, [(.tmp 4)], (.seq (.region [⟨(some 4), (.mov (.const (.c (.val (.bool false))))), none⟩])
 (.seq (.region [(mV 11 1), ⟨(some 12), (.call 49 [(.tmp 11), (.const (.c (.str [58])))]), none⟩, (mV 10 12), (oP 13 (.ext (.tmp 10) 0)), (oP 14 (.ext (.tmp 10) 1)), (oP 15 (.ext (.tmp 10) 2)), (mV 5 13), (mV 6 14), (mV 7 15)])
 (.seq (.region [(mV 16 0), (mV 17 5), (oP 18 (.call 41 [(.tmp 17)])), (oP 19 (.nilc (.tmp 16))), (oP 20 (.faddr 1 (.tmp 19))), ⟨none, (.store 1 (.tmp 20) (.tmp 18)), none⟩])
 (.seq (.seq (.region [(mV 21 0), (oP 22 (.nilc (.tmp 21))), (oP 23 (.faddr 1 (.tmp 22))), (oP 24 (.load false 1 (.tmp 23))), (oP 25 (.call 50 [(.tmp 24)])), (oP 26 (.un .not (.tmp 25)))])
 (.cond (.tmp 26) (.seq (.region [⟨(some 4), (.mov (.const (.c (.val (.bool false))))), none⟩])
 .ret) .skip))
 (.seq (.seq (.region [(mV 27 7), (oP 28 (.un .not (.tmp 27)))])
 (.cond (.tmp 28) (.seq (.region [⟨(some 4), (.mov (.const (.c (.val (.bool true))))), none⟩])
 .ret) .skip))
 (.seq (.seq (.region [(mV 29 6), (oP 30 (.lenS (.tmp 29))), ⟨(some 31), (.bin .lss (.tmp 30) (kI 1)), none⟩, (mV 32 31), ⟨(some 33), (.mov (.tmp 6)), (some (32, false))⟩, ⟨(some 34), (.lenS (.tmp 33)), (some (32, false))⟩, ⟨(some 35), (.bin .gtr (.tmp 34) (kI 5)), (some (32, false))⟩, ⟨(some 36), (.pick (.tmp 32) (.const (.c (.val (.bool true)))) (.tmp 35)), none⟩, (mV 37 36), ⟨(some 38), (.mov (.tmp 6)), (some (37, false))⟩, ⟨(some 39), (.call 51 [(.tmp 38), (.const (.c (.str [48, 49, 50, 51, 52, 53, 54, 55, 56, 57])))]), (some (37, false))⟩, ⟨(some 40), (.bin .neq (.tmp 39) (.const (.c (.str [])))), (some (37, false))⟩, ⟨(some 41), (.pick (.tmp 37) (.const (.c (.val (.bool true)))) (.tmp 40)), none⟩])
 a20_c0)
 a20_c2))))))⟩
set_option maxRecDepth 100000 in
theorem c20 : compFunc Tryz.prog 20 = some a20 := by kernel_rfl
def a20_url_place1_c0 : ACode := (.cond (.tmp 41) (.seq (.region [⟨(some 4), (.mov (.const (.c (.val (.bool false))))), none⟩])
 .ret) .skip)
def a20_url_place1_c1 : ACode := (.seq (.region [⟨(some 4), (.mov (.const (.c (.val (.bool true))))), none⟩])
 .ret)
def a20_url_place1_c2 : ACode := (.seq (.region [(mV 43 6), (oP 44 (.call 52 [(.tmp 43)])), (mV 42 44), (oP 45 (.ext (.tmp 42) 0)), (oP 46 (.ext (.tmp 42) 1)), (mV 8 45), (mV 9 46)])
 (.seq (.seq (.region [(mV 47 8), ⟨(some 48), (.bin .lss (.tmp 47) (kI 1)), none⟩, (mV 49 48), ⟨(some 50), (.mov (.tmp 8)), (some (49, false))⟩, ⟨(some 51), (.bin .gtr (.tmp 50) (kI 65535)), (some (49, false))⟩, ⟨(some 52), (.pick (.tmp 49) (.const (.c (.val (.bool true)))) (.tmp 51)), none⟩])
 (.cond (.tmp 52) (.seq (.region [⟨(some 4), (.mov (.const (.c (.val (.bool false))))), none⟩])
 .ret) .skip))
 (.seq (.seq (.region [(mV 53 8), (mV 54 0), (oP 55 (.nilc (.tmp 54))), (oP 56 (.faddr 0 (.tmp 55))), (oP 57 (.load false 1 (.tmp 56))), (oP 58 (.call 53 [(.tmp 57)])), (oP 59 (.bin .neq (.tmp 53) (.tmp 58)))])
 (.cond (.tmp 59) (.region [(mV 60 0), (mV 61 8), (oP 62 (.nilc (.tmp 60))), (oP 63 (.faddr 2 (.tmp 62))), ⟨none, (.store 1 (.tmp 63) (.tmp 61)), none⟩]) .skip))
 a20_url_place1_c1)))
def url_place1_post (r : (Bool × TJUrl)) : AV → Heap → Nat → Prop := fun v h' n' => ∃ z0 : Bool, (z0 = true → r.2.Path = []) ∧ v = (B r.1) ∧ (h' = (upd (upd e0 0 (some (.cells 8 [[.str r.2.Scheme, .str r.2.Host, cI r.2.Port, lstC z0 2 1 r.2.Path.length, .str r.2.Query, cB r.2.Asks, .str r.2.Fragment, cB r.2.Points]]))) 2 (lstB z0 1 (r.2.Path.map eStr)))) ∧ n' = 3
noncomputable def url_place1_j2 (u_ : TJUrl) (r_1 : Tx) (u2 : Int) (u31 : TT) : Option (Bool × TJUrl) :=
 some (true, (⟨u_.Scheme, r_1, u2, u31, u_.Query, u_.Asks, u_.Fragment, u_.Points⟩ : TJUrl))
theorem url_place1_j2_ok {mL : Int} {u_ : TJUrl} {r_1 : Tx} {u2 : Int} {u31 : TT} {zu31 : Bool} (hzu31 : zu31 = true → u31 = []) {o : (Bool × TJUrl)} (h : url_place1_j2 u_ r_1 u2 u31 = some o) :
  Sv Tryz.prog (GG mL) 2 a20_url_place1_c1 (Ends a20.results 2 (url_place1_post o)) ⟨(upd e0 0 (some (.c (.ref 0 8 0 0)))), (upd (upd e0 0 (some (.cells 8 [[.str u_.Scheme, .str r_1, cI u2, lstC zu31 1 1 u31.length, .str u_.Query, cB u_.Asks, .str u_.Fragment, cB u_.Points]]))) 1 (lstB zu31 1 (u31.map eStr))), 2⟩ := by
 unfold url_place1_j2 at h
 refine ssr <| un1 rfl <| dnil <| Sv.ret ?_
 replace h := Option.some.inj h
 subst h
 exact ⟨_, .refl _, _, rfl, ⟨upd e0 0 (some (B true)), (upd (upd e0 0 (some (.cells 8 [[.str u_.Scheme, .str r_1, cI u2, lstC zu31 2 1 u31.length, .str u_.Query, cB u_.Asks, .str u_.Fragment, cB u_.Points]]))) 2 (lstB zu31 1 (u31.map eStr))), 3⟩, (B true), weak_canon2 [0, 1, 1] [0, 2] (by decide) (by decide) (by decide) (.cons (by decide) (.cons (by decide) .nil)) (.cf rfl rfl .nil) (.row (by decide) rfl (fr_map fun _ => rfl) (.box (by decide) rfl (blkAs_cells (.sm rfl (.sm rfl (.sm rfl (.cons (lstC_ren rfl (by decide)) (.sm rfl (.sm rfl (.sm rfl (.sm rfl .nil))))))))) .nil)), rfl, zu31, hzu31, rfl, rfl, rfl⟩
abbrev url_place1_q0 (mL : Int) (o : (Bool × TJUrl)) : AExit → St → Prop := AThen (Sv Tryz.prog (GG mL) 2 a20_url_place1_c2 (Ends a20.results 2 (url_place1_post o))) (Ends a20.results 2 (url_place1_post o))
noncomputable def url_place1_j1 (u_ : TJUrl) (r_1 : Tx) (r_ : (Tx × Tx × Bool)) (u3 : TT) (v41 : Bool) : Option (Bool × TJUrl) :=
 if v41 then
  some (false, (⟨u_.Scheme, r_1, u_.Port, u3, u_.Query, u_.Asks, u_.Fragment, u_.Points⟩ : TJUrl))
 else
  (strconv_Atoi r_.2.1).bind fun r_3 =>
  if ((decide (r_3.1 < 1)) || (decide (65535 < r_3.1))) then
   some (false, (⟨u_.Scheme, r_1, u_.Port, u3, u_.Query, u_.Asks, u_.Fragment, u_.Points⟩ : TJUrl))
  else
   if (!decide (r_3.1 = (url_own u_.Scheme))) then
    url_place1_j2 u_ r_1 r_3.1 u3
   else
    url_place1_j2 u_ r_1 u_.Port u3
theorem url_place1_j1_ok {mL : Int} {u_ : TJUrl} {r_1 : Tx} {r_ : (Tx × Tx × Bool)} {u3 : TT} {v41 : Bool} {zu3 : Bool} (hzu3 : zu3 = true → u3 = []) {o : (Bool × TJUrl)} (h : url_place1_j1 u_ r_1 r_ u3 v41 = some o) :
  Sv Tryz.prog (GG mL) 2 a20_url_place1_c0 (url_place1_q0 mL o) ⟨(upd (upd (upd e0 0 (some (.c (.ref 0 8 0 0)))) 6 (some (S r_.2.1))) 41 (some (B v41))), (upd (upd e0 0 (some (.cells 8 [[.str u_.Scheme, .str r_1, cI u_.Port, lstC zu3 1 1 u3.length, .str u_.Query, cB u_.Asks, .str u_.Fragment, cB u_.Points]]))) 1 (lstB zu3 1 (u3.map eStr))), 2⟩ := by
 unfold url_place1_j1 at h
 refine Sv.cond (b := v41) rfl (fun hc3 => ?_) (fun hc3 => ?_)
 ·replace h := ifT hc3 h
  refine ssr <| un1 rfl <| dnil <| Sv.ret ?_
  replace h := Option.some.inj h
  subst h
  exact ⟨_, .refl _, _, rfl, ⟨upd e0 0 (some (B false)), (upd (upd e0 0 (some (.cells 8 [[.str u_.Scheme, .str r_1, cI u_.Port, lstC zu3 2 1 u3.length, .str u_.Query, cB u_.Asks, .str u_.Fragment, cB u_.Points]]))) 2 (lstB zu3 1 (u3.map eStr))), 3⟩, (B false), weak_canon2 [0, 1, 1] [0, 2] (by decide) (by decide) (by decide) (.cons (by decide) (.cons (by decide) .nil)) (.cf rfl rfl .nil) (.row (by decide) rfl (fr_map fun _ => rfl) (.box (by decide) rfl (blkAs_cells (.sm rfl (.sm rfl (.sm rfl (.cons (lstC_ren rfl (by decide)) (.sm rfl (.sm rfl (.sm rfl (.sm rfl .nil))))))))) .nil)), rfl, zu3, hzu3, rfl, rfl, rfl⟩
 ·replace h := ifF hc3 h
  refine Sv.skip <| ssr <| un1 rfl ?_
  obtain ⟨r_3, hr4, h⟩ := bnd h
  refine un <| ac_pure (strconv_Atoi_ok hr4) rfl rfl (by simp only [AV.free, freeL, List.all_cons, List.all_nil, errC_free, ierrC_free] <;> rfl) <| un1 rfl <| un1 (v := (I r_3.1)) rfl <| un1 (v := (.c (errC r_3.2))) rfl <| un1 rfl <| un1 rfl <| dnil <| Sv.seq <| ssr <| un1 rfl <| un1 (v := (B (decide (r_3.1 < 1)))) rfl <| un1 rfl ?_
  refine gjoin 3 (d := 52) (v := (B ((decide (r_3.1 < 1)) || (decide (65535 < r_3.1))))) (fun X hX => ?_) ?_
  ·refine split2 (fun hc4 => ?_) (fun hc4 => ?_)
   ·refine gs rfl rfl <| gs rfl rfl <| un1 (v := (B true)) rfl <| dnil ?_
    exact hX _ (.putEq (by rw [hc4]; rfl) (.skip _ _ (.skip _ _ (.putEq (by rw [hc4]) (.refl _)) rfl) rfl))
   ·refine gt rfl <| a1 rfl <| gt rfl <| a1 (v := (B (decide (65535 < r_3.1)))) rfl <| un1 (v := (B (decide (65535 < r_3.1)))) rfl <| dnil ?_
    exact hX _ (.putEq (by rw [hc4]; rfl) (.skip _ _ (.skip _ _ (.putEq (by rw [hc4]) (.refl _)) rfl) rfl))
  refine dnil ?_
  refine Sv.cond (b := ((decide (r_3.1 < 1)) || (decide (65535 < r_3.1)))) rfl (fun hc5 => ?_) (fun hc5 => ?_)
  ·replace h := ifT hc5 h
   refine ssr <| un1 rfl <| dnil <| Sv.ret ?_
   replace h := Option.some.inj h
   subst h
   exact ⟨_, .refl _, _, rfl, ⟨upd e0 0 (some (B false)), (upd (upd e0 0 (some (.cells 8 [[.str u_.Scheme, .str r_1, cI u_.Port, lstC zu3 2 1 u3.length, .str u_.Query, cB u_.Asks, .str u_.Fragment, cB u_.Points]]))) 2 (lstB zu3 1 (u3.map eStr))), 3⟩, (B false), weak_canon2 [0, 1, 1] [0, 2] (by decide) (by decide) (by decide) (.cons (by decide) (.cons (by decide) .nil)) (.cf rfl rfl .nil) (.row (by decide) rfl (fr_map fun _ => rfl) (.box (by decide) rfl (blkAs_cells (.sm rfl (.sm rfl (.sm rfl (.cons (lstC_ren rfl (by decide)) (.sm rfl (.sm rfl (.sm rfl (.sm rfl .nil))))))))) .nil)), rfl, zu3, hzu3, rfl, rfl, rfl⟩
  ·replace h := ifF hc5 h
   refine Sv.skip <| Sv.seq <| ssr <| un1 rfl <| un1 rfl <| un1 (v := (.c (.ref 0 8 0 0))) rfl <| un1 (v := (.c (.ref 0 8 0 0))) rfl <| un1 (v := (S u_.Scheme)) rfl <| un <| ac_pure (url_own_ok (mL := mL) u_.Scheme) rfl rfl rfl <| un1 (v := (B (!decide (r_3.1 = (url_own u_.Scheme))))) rfl <| dnil ?_
   refine Sv.cond (b := (!decide (r_3.1 = (url_own u_.Scheme)))) rfl (fun hc6 => ?_) (fun hc6 => ?_)
   ·replace h := ifT hc6 h
    refine srg <| un1 rfl <| un1 rfl <| un1 (v := (.c (.ref 0 8 0 0))) rfl <| un1 (v := (.c (.ref 0 8 0 2))) rfl <| un <| a2n (h' := upd _ 0 (some (.cells 8 [[.str u_.Scheme, .str r_1, cI r_3.1, lstC zu3 1 1 u3.length, .str u_.Query, cB u_.Asks, .str u_.Fragment, cB u_.Points]]))) (n' := 2) rfl rfl (fun h => by cases h) <| dnil ?_
    exact Sv.weak (weak_canon [0, 1] rfl (by decide) (by decide) (by decide) (.cons rfl (.c (.ref rfl (by decide))) .nil) (.row (by decide) rfl (fr_map fun _ => rfl) (.box (by decide) rfl (blkAs_cells (.sm rfl (.sm rfl (.sm rfl (.cons (lstC_ren rfl (by decide)) (.sm rfl (.sm rfl (.sm rfl (.sm rfl .nil))))))))) .nil))) (url_place1_j2_ok hzu3 h)
   ·replace h := ifF hc6 h
    refine Sv.skip ?_
    exact Sv.weak (weak_canon [0, 1] rfl (by decide) (by decide) (by decide) (.cons rfl (.c (.ref rfl (by decide))) .nil) (.row (by decide) rfl (fr_map fun _ => rfl) (.box (by decide) rfl (blkAs_cells (.sm rfl (.sm rfl (.sm rfl (.cons (lstC_ren rfl (by decide)) (.sm rfl (.sm rfl (.sm rfl (.sm rfl .nil))))))))) .nil))) (url_place1_j2_ok hzu3 h)
/-- clerestory/url.place -/
noncomputable def url_place1 (u_ : TJUrl) (s_ : Tx) : Option (Bool × TJUrl) :=
 (strings_Cut s_ [58]).bind fun r_ =>
 (url_small r_.1).bind fun r_1 =>
 (url_host r_1).bind fun r_2 =>
 if (!r_2) then
  some (false, (⟨u_.Scheme, r_1, u_.Port, u_.Path, u_.Query, u_.Asks, u_.Fragment, u_.Points⟩ : TJUrl))
 else
  if (!r_.2.2) then
   some (true, (⟨u_.Scheme, r_1, u_.Port, u_.Path, u_.Query, u_.Asks, u_.Fragment, u_.Points⟩ : TJUrl))
  else
   if ((decide ((r_.2.1.length : Int) < 1)) || (decide (5 < (r_.2.1.length : Int)))) then
    url_place1_j1 u_ r_1 r_ u_.Path true
   else
    (strings_Trim r_.2.1 [48, 49, 50, 51, 52, 53, 54, 55, 56, 57]).bind fun r_4 =>
    url_place1_j1 u_ r_1 r_ u_.Path (!decide (r_4 = []))
theorem url_place1_ok {mL : Int} {u_ : TJUrl} {s_ : Tx} {zu : Bool} (hzu : zu = true → u_.Path = []) {r : (Bool × TJUrl)} (h : url_place1 u_ s_ = some r) : ACalls Tryz.prog (GG mL) 20 [(.c (.ref 0 8 0 0)), (S s_)] (upd (upd e0 0 (some (.cells 8 [[.str u_.Scheme, .str u_.Host, cI u_.Port, lstC zu 1 1 u_.Path.length, .str u_.Query, cB u_.Asks, .str u_.Fragment, cB u_.Points]]))) 1 (lstB zu 1 (u_.Path.map eStr))) 2 (url_place1_post r) := by
 refine acalls_of_sv hmix c20 (R := url_place1_post r) ?_
 unfold url_place1 at h
 refine ssr <| un1 rfl <| dnil <| ssr <| un1 rfl ?_
 obtain ⟨r_, hr1, h⟩ := bnd h
 refine un <| ac_pure (strings_Cut_ok hr1) rfl rfl rfl <| un1 rfl <| un1 (v := (S r_.1)) rfl <| un1 (v := (S r_.2.1)) rfl <| un1 (v := (B r_.2.2)) rfl <| un1 rfl <| un1 rfl <| un1 rfl <| dnil <| ssr <| un1 rfl <| un1 rfl ?_
 obtain ⟨r_1, hr2, h⟩ := bnd h
 refine un <| ac_pure (url_small_ok hr2) rfl rfl rfl <| un1 (v := (.c (.ref 0 8 0 0))) rfl <| un1 (v := (.c (.ref 0 8 0 1))) rfl <| un <| a2n (h' := upd _ 0 (some (.cells 8 [[.str u_.Scheme, .str r_1, cI u_.Port, lstC zu 1 1 u_.Path.length, .str u_.Query, cB u_.Asks, .str u_.Fragment, cB u_.Points]]))) (n' := 2) rfl rfl (fun h => by cases h) <| dnil <| Sv.seq <| ssr <| un1 rfl <| un1 (v := (.c (.ref 0 8 0 0))) rfl <| un1 (v := (.c (.ref 0 8 0 1))) rfl <| un1 (v := (S r_1)) rfl ?_
 obtain ⟨r_2, hr3, h⟩ := bnd h
 refine un <| ac_pure (url_host_ok hr3) rfl rfl rfl <| un1 (v := (B (!r_2))) rfl <| dnil ?_
 refine Sv.cond (b := (!r_2)) rfl (fun hc1 => ?_) (fun hc1 => ?_)
 ·replace h := ifT hc1 h
  refine ssr <| un1 rfl <| dnil <| Sv.ret ?_
  replace h := Option.some.inj h
  subst h
  exact ⟨_, .refl _, _, rfl, ⟨upd e0 0 (some (B false)), (upd (upd e0 0 (some (.cells 8 [[.str u_.Scheme, .str r_1, cI u_.Port, lstC zu 2 1 u_.Path.length, .str u_.Query, cB u_.Asks, .str u_.Fragment, cB u_.Points]]))) 2 (lstB zu 1 (u_.Path.map eStr))), 3⟩, (B false), weak_canon2 [0, 1, 1] [0, 2] (by decide) (by decide) (by decide) (.cons (by decide) (.cons (by decide) .nil)) (.cf rfl rfl .nil) (.row (by decide) rfl (fr_map fun _ => rfl) (.box (by decide) rfl (blkAs_cells (.sm rfl (.sm rfl (.sm rfl (.cons (lstC_ren rfl (by decide)) (.sm rfl (.sm rfl (.sm rfl (.sm rfl .nil))))))))) .nil)), rfl, zu, hzu, rfl, rfl, rfl⟩
 ·replace h := ifF hc1 h
  refine Sv.skip <| Sv.seq <| ssr <| un1 rfl <| un1 (v := (B (!r_.2.2))) rfl <| dnil ?_
  refine Sv.cond (b := (!r_.2.2)) rfl (fun hc2 => ?_) (fun hc2 => ?_)
  ·replace h := ifT hc2 h
   refine ssr <| un1 rfl <| dnil <| Sv.ret ?_
   replace h := Option.some.inj h
   subst h
   exact ⟨_, .refl _, _, rfl, ⟨upd e0 0 (some (B true)), (upd (upd e0 0 (some (.cells 8 [[.str u_.Scheme, .str r_1, cI u_.Port, lstC zu 2 1 u_.Path.length, .str u_.Query, cB u_.Asks, .str u_.Fragment, cB u_.Points]]))) 2 (lstB zu 1 (u_.Path.map eStr))), 3⟩, (B true), weak_canon2 [0, 1, 1] [0, 2] (by decide) (by decide) (by decide) (.cons (by decide) (.cons (by decide) .nil)) (.cf rfl rfl .nil) (.row (by decide) rfl (fr_map fun _ => rfl) (.box (by decide) rfl (blkAs_cells (.sm rfl (.sm rfl (.sm rfl (.cons (lstC_ren rfl (by decide)) (.sm rfl (.sm rfl (.sm rfl (.sm rfl .nil))))))))) .nil)), rfl, zu, hzu, rfl, rfl, rfl⟩
  ·replace h := ifF hc2 h
   refine Sv.skip <| Sv.seq <| ssr <| un1 rfl <| un1 (v := (I (r_.2.1.length : Int))) rfl <| un1 (v := (B (decide ((r_.2.1.length : Int) < 1)))) rfl <| un1 rfl ?_
   refine gjoin 4 (d := 36) (v := (B ((decide ((r_.2.1.length : Int) < 1)) || (decide (5 < (r_.2.1.length : Int)))))) (fun X hX => ?_) ?_
   ·refine split2 (fun hc7 => ?_) (fun hc7 => ?_)
    ·refine gs rfl rfl <| gs rfl rfl <| gs rfl rfl <| un1 (v := (B true)) rfl <| dnil ?_
     exact hX _ (.putEq (by rw [hc7]; rfl) (.skip _ _ (.skip _ _ (.skip _ _ (.putEq (by rw [hc7]) (.refl _)) rfl) rfl) rfl))
    ·refine gt rfl <| a1 rfl <| gt rfl <| a1 (v := (I (r_.2.1.length : Int))) rfl <| gt rfl <| a1 (v := (B (decide (5 < (r_.2.1.length : Int))))) rfl <| un1 (v := (B (decide (5 < (r_.2.1.length : Int))))) rfl <| dnil ?_
     exact hX _ (.putEq (by rw [hc7]; rfl) (.skip _ _ (.skip _ _ (.skip _ _ (.putEq (by rw [hc7]) (.refl _)) rfl) rfl) rfl))
   refine un1 rfl ?_
   refine split2 (fun hc8 => ?_) (fun hc8 => ?_)
   ·replace h := ifT hc8 h
    refine gs rfl rfl <| gs rfl rfl <| gs rfl rfl <| un1 (v := (B true)) rfl <| dnil ?_
    exact Sv.weak (weak_canon [0, 1] rfl (by decide) (by decide) (by decide) (.cf rfl rfl (.cf rfl rfl (.cons rfl (.c (.ref rfl (by decide))) .nil))) (.row (by decide) rfl (fr_map fun _ => rfl) (.box (by decide) rfl (blkAs_cells (.sm rfl (.sm rfl (.sm rfl (.cons (lstC_ren rfl (by decide)) (.sm rfl (.sm rfl (.sm rfl (.sm rfl .nil))))))))) .nil))) (url_place1_j1_ok hzu h)
   ·replace h := ifF hc8 h
    refine gt rfl <| a1 rfl ?_
    obtain ⟨r_4, hr5, h⟩ := bnd h
    refine gt rfl <| ac_pure (strings_Trim_ok hr5) rfl rfl rfl <| gt rfl <| a1 (v := (B (!decide (r_4 = [])))) rfl <| un1 (v := (B (!decide (r_4 = [])))) rfl <| dnil ?_
    exact Sv.weak (weak_canon [0, 1] rfl (by decide) (by decide) (by decide) (.cf rfl rfl (.cf rfl rfl (.cons rfl (.c (.ref rfl (by decide))) .nil))) (.row (by decide) rfl (fr_map fun _ => rfl) (.box (by decide) rfl (blkAs_cells (.sm rfl (.sm rfl (.sm rfl (.cons (lstC_ren rfl (by decide)) (.sm rfl (.sm rfl (.sm rfl (.sm rfl .nil))))))))) .nil))) (url_place1_j1_ok hzu h)
def a108_c0 : ACode := (.seq (.region [(mV 11 0), ⟨(some 12), (.call 72 [(.const (.c (.str [48, 49, 50, 51, 52, 53, 54, 55, 56, 57, 65, 66, 67, 68, 69, 70]))), (.tmp 11)]), none⟩, (mV 2 12)])
 .ret)
def a108 : AFunc := ⟨1, [(.tmp 2)], (.seq (.region [⟨(some 2), (.mov (kI 0)), none⟩])
 (.seq (.seq (.region [(mV 3 0), ⟨(some 4), (.bin .geq (.tmp 3) (.const (.c (.val (.int .u8 97))))), none⟩, (mV 5 4), ⟨(some 6), (.mov (.tmp 0)), (some (5, true))⟩, ⟨(some 7), (.bin .leq (.tmp 6) (.const (.c (.val (.int .u8 102))))), (some (5, true))⟩, ⟨(some 8), (.pick (.tmp 5) (.tmp 7) (.const (.c (.val (.bool false))))), none⟩])
 (.cond (.tmp 8) (.region [(mV 9 0), ⟨(some 10), (.bin .sub (.tmp 9) (.const (.c (.val (.int .u8 32))))), none⟩, (mV 0 10)]) .skip))
 a108_c0))⟩
set_option maxRecDepth 100000 in
theorem c108 : compFunc Tryz.prog 108 = some a108 := by kernel_rfl
def url_value_post (r : Int) : AV → Heap → Nat → Prop := fun v h' n' => v = (I r) ∧ (h' = e0) ∧ n' = 0
noncomputable def url_value_j1 (c_1 : Int) : Option Int :=
 (strings_IndexByte [48, 49, 50, 51, 52, 53, 54, 55, 56, 57, 65, 66, 67, 68, 69, 70] c_1).bind fun r_ =>
 some r_
theorem url_value_j1_ok {mL : Int} {c_1 : Int} {o : Int} (h : url_value_j1 c_1 = some o) :
  Sv Tryz.prog (GG mL) 0 a108_c0 (Ends a108.results 0 (url_value_post o)) ⟨(upd e0 0 (some (.c (.val (.int .u8 c_1))))), e0, 0⟩ := by
 unfold url_value_j1 at h
 refine ssr <| un1 rfl ?_
 obtain ⟨r_, hr1, h⟩ := bnd h
 refine un <| ac_pure (strings_IndexByte_ok hr1) rfl rfl rfl <| un1 rfl <| dnil <| Sv.ret ?_
 replace h := Option.some.inj h
 subst h
 exact ⟨_, .refl _, _, rfl, ⟨upd e0 0 (some (I r_)), e0, 0⟩, (I r_), weak_canon [] rfl List.nodup_nil (Nat.le_refl _) nlz (.cf rfl rfl .nil) .nil, rfl, rfl, rfl, rfl⟩
/-- clerestory/url.value -/
noncomputable def url_value (c_ : Int) : Option Int :=
 if ((decide (97 ≤ c_)) && (decide (c_ ≤ 102))) then
  url_value_j1 (wr .u8 (c_ - 32))
 else
  url_value_j1 c_
theorem url_value_ok {mL : Int} {c_ : Int} {r : Int} (h : url_value c_ = some r) : CPure Tryz.prog (GG mL) 108 [(.c (.val (.int .u8 c_)))] (I r) := by
 refine acalls_of_sv hmix c108 (R := url_value_post r) ?_
 unfold url_value at h
 refine ssr <| un1 rfl <| dnil <| Sv.seq <| ssr <| un1 rfl <| un1 (v := (B (decide (97 ≤ c_)))) rfl <| un1 rfl ?_
 refine gjoin 3 (d := 8) (v := (B ((decide (97 ≤ c_)) && (decide (c_ ≤ 102))))) (fun X hX => ?_) ?_
 ·refine split2 (fun hc1 => ?_) (fun hc1 => ?_)
  ·refine gt rfl <| a1 rfl <| gt rfl <| a1 (v := (B (decide (c_ ≤ 102)))) rfl <| un1 (v := (B (decide (c_ ≤ 102)))) rfl <| dnil ?_
   exact hX _ (.putEq (by rw [hc1]; rfl) (.skip _ _ (.skip _ _ (.putEq (by rw [hc1]) (.refl _)) rfl) rfl))
  ·refine gs rfl rfl <| gs rfl rfl <| un1 (v := (B false)) rfl <| dnil ?_
   exact hX _ (.putEq (by rw [hc1]; rfl) (.skip _ _ (.skip _ _ (.putEq (by rw [hc1]) (.refl _)) rfl) rfl))
 refine dnil ?_
 refine Sv.cond (b := ((decide (97 ≤ c_)) && (decide (c_ ≤ 102)))) rfl (fun hc2 => ?_) (fun hc2 => ?_)
 ·replace h := ifT hc2 h
  refine srg <| un1 rfl <| un1 (v := (.c (.val (.int .u8 (wr .u8 (c_ - 32)))))) rfl <| un1 rfl <| dnil ?_
  exact Sv.weak (wcn [] rfl (.cf rfl rfl .nil) .nil) (url_value_j1_ok h)
 ·replace h := ifF hc2 h
  refine Sv.skip ?_
  exact Sv.weak (wcn [] rfl (.cf rfl rfl .nil) .nil) (url_value_j1_ok h)
def a85_c0 : ACode := (.cond (.tmp 23) (.seq (.region [⟨(some 2), (.mov (.const (.c (.val (.int .u8 0))))), none⟩, ⟨(some 3), (.mov (kI 0)), none⟩])
 .ret) .skip)
def a85_c1 : ACode := (.seq (.drawn (.fin [((mV 24 0), (0, 0)), (⟨(some 25), (.idxS (.tmp 24) (kI 1)), none⟩, (0, 1)), ((mV 28 0), (0, 4)), (⟨(some 29), (.idxS (.tmp 28) (kI 2)), none⟩, (0, 5)), ((oP 26 (.call 108 [(.tmp 25)])), (2, 2)), (⟨(some 27), (.bin .shl (.tmp 26) (.const (.c (.val (.int .u64 4))))), none⟩, (0, 3)), ((oP 30 (.call 108 [(.tmp 29)])), (2, 6)), ((oP 31 (.bin .or (.tmp 27) (.tmp 30))), (0, 7)), ((oP 32 (.conv .u8 (.tmp 31))), (0, 8)), ((mV 2 32), (0, 9)), (⟨(some 3), (.mov (kI 3)), none⟩, (0, 10))]))
 .ret)
def a85 : AFunc := ⟨1, [(.tmp 2), (.tmp 3)], (.seq (.region [⟨(some 2), (.mov (.const (.c (.val (.int .u8 0))))), none⟩, ⟨(some 3), (.mov (kI 0)), none⟩])
 (.seq (.seq (.region [(mV 4 0), ⟨(some 5), (.idxS (.tmp 4) (kI 0)), none⟩, ⟨(some 6), (.bin .neq (.tmp 5) (.const (.c (.val (.int .u8 37))))), none⟩])
 (.cond (.tmp 6) (.seq (.region [(mV 7 0), ⟨(some 8), (.idxS (.tmp 7) (kI 0)), none⟩, (mV 2 8), ⟨(some 3), (.mov (kI 1)), none⟩])
 .ret) .skip))
 (.seq (.seq (.region [(mV 9 0), (oP 10 (.lenS (.tmp 9))), ⟨(some 11), (.bin .lss (.tmp 10) (kI 3)), none⟩, (mV 12 11), ⟨(some 13), (.mov (.tmp 0)), (some (12, false))⟩, ⟨(some 14), (.idxS (.tmp 13) (kI 1)), (some (12, false))⟩, ⟨(some 15), (.call 108 [(.tmp 14)]), (some (12, false))⟩, ⟨(some 16), (.bin .lss (.tmp 15) (kI 0)), (some (12, false))⟩, ⟨(some 17), (.pick (.tmp 12) (.const (.c (.val (.bool true)))) (.tmp 16)), none⟩, (mV 18 17), ⟨(some 19), (.mov (.tmp 0)), (some (18, false))⟩, ⟨(some 20), (.idxS (.tmp 19) (kI 2)), (some (18, false))⟩, ⟨(some 21), (.call 108 [(.tmp 20)]), (some (18, false))⟩, ⟨(some 22), (.bin .lss (.tmp 21) (kI 0)), (some (18, false))⟩, ⟨(some 23), (.pick (.tmp 18) (.const (.c (.val (.bool true)))) (.tmp 22)), none⟩])
 a85_c0)
 a85_c1)))⟩
set_option maxRecDepth 100000 in
theorem c85 : compFunc Tryz.prog 85 = some a85 := by kernel_rfl
def url_read_post (r : (Int × Int)) : AV → Heap → Nat → Prop := fun v h' n' => v = (.tup [(.c (.val (.int .u8 r.1))), (I r.2)]) ∧ (h' = e0) ∧ n' = 0
abbrev url_read_q0 (mL : Int) (o : (Int × Int)) : AExit → St → Prop := AThen (Sv Tryz.prog (GG mL) 0 a85_c1 (Ends a85.results 0 (url_read_post o))) (Ends a85.results 0 (url_read_post o))
noncomputable def url_read_j1 (s_ : Tx) (v23 : Bool) : Option (Int × Int) :=
 if v23 then
  some (0, 0)
 else
  (at? s_ 1).bind fun c_2 =>
  (at? s_ 2).bind fun c_3 =>
  (url_value (c_2.toNat : Int)).bind fun r_ =>
  (url_value (c_3.toNat : Int)).bind fun r_1 =>
  some ((wr .u8 (bitsV .or .i64 (shl .i64 r_ 4) r_1)), 3)
theorem url_read_j1_ok {mL : Int} {s_ : Tx} {v23 : Bool} {o : (Int × Int)} (h : url_read_j1 s_ v23 = some o) :
  Sv Tryz.prog (GG mL) 0 a85_c0 (url_read_q0 mL o) ⟨(upd (upd e0 0 (some (S s_))) 23 (some (B v23))), e0, 0⟩ := by
 unfold url_read_j1 at h
 refine Sv.cond (b := v23) rfl (fun hc2 => ?_) (fun hc2 => ?_)
 ·replace h := ifT hc2 h
  refine ssr <| un1 rfl <| un1 rfl <| dnil <| Sv.ret ?_
  replace h := Option.some.inj h
  subst h
  exact ⟨_, .refl _, _, rfl, ⟨upd e0 0 (some (.tup [(.c (.val (.int .u8 0))), (I 0)])), e0, 0⟩, (.tup [(.c (.val (.int .u8 0))), (I 0)]), weak_canon [] rfl List.nodup_nil (Nat.le_refl _) nlz (.cons rfl (avAs_tup (.cons (avAs_free rfl) (.cons (avAs_free rfl) .nil))) .nil) .nil, rfl, rfl, rfl, rfl⟩
 ·replace h := ifF hc2 h
  refine Sv.skip <| Sv.seq <| Sv.drawn <| un1 rfl ?_
  obtain ⟨c_2, hx3, h⟩ := bnd h
  refine un1 (v := (.c (.val (.int .u8 (c_2.toNat : Int))))) (s_idxS rfl rfl hx3) <| un1 rfl ?_
  obtain ⟨c_3, hx4, h⟩ := bnd h
  refine un1 (v := (.c (.val (.int .u8 (c_3.toNat : Int))))) (s_idxS rfl rfl hx4) ?_
  obtain ⟨r_, hr1, h⟩ := bnd h
  refine un <| ac_pure (url_value_ok hr1) rfl rfl rfl <| un1 (v := (I (shl .i64 r_ 4))) rfl ?_
  obtain ⟨r_1, hr2, h⟩ := bnd h
  refine un <| ac_pure (url_value_ok hr2) rfl rfl rfl <| un1 (v := (I (bitsV .or .i64 (shl .i64 r_ 4) r_1))) rfl <| un1 (v := (.c (.val (.int .u8 (wr .u8 (bitsV .or .i64 (shl .i64 r_ 4) r_1)))))) rfl <| un1 rfl <| un1 rfl <| dnil <| Sv.ret ?_
  replace h := Option.some.inj h
  subst h
  exact ⟨_, .refl _, _, rfl, ⟨upd e0 0 (some (.tup [(.c (.val (.int .u8 (wr .u8 (bitsV .or .i64 (shl .i64 r_ 4) r_1))))), (I 3)])), e0, 0⟩, (.tup [(.c (.val (.int .u8 (wr .u8 (bitsV .or .i64 (shl .i64 r_ 4) r_1))))), (I 3)]), weak_canon [] rfl List.nodup_nil (Nat.le_refl _) nlz (.cons rfl (avAs_tup (.cons (avAs_free rfl) (.cons (avAs_free rfl) .nil))) .nil) .nil, rfl, rfl, rfl, rfl⟩
/-- clerestory/url.read -/
noncomputable def url_read (s_ : Tx) : Option (Int × Int) :=
 (at? s_ 0).bind fun c_ =>
 if (!decide ((c_.toNat : Int) = 37)) then
  (at? s_ 0).bind fun c_1 =>
  some ((c_1.toNat : Int), 1)
 else
  if decide ((s_.length : Int) < 3) then
   url_read_j1 s_ true
  else
   (at? s_ 1).bind fun c_4 =>
   (url_value (c_4.toNat : Int)).bind fun r_2 =>
   if decide (r_2 < 0) then
    url_read_j1 s_ true
   else
    (at? s_ 2).bind fun c_5 =>
    (url_value (c_5.toNat : Int)).bind fun r_3 =>
    url_read_j1 s_ (decide (r_3 < 0))
theorem url_read_ok {mL : Int} {s_ : Tx} {r : (Int × Int)} (h : url_read s_ = some r) : CPure Tryz.prog (GG mL) 85 [(S s_)] (.tup [(.c (.val (.int .u8 r.1))), (I r.2)]) := by
 refine acalls_of_sv hmix c85 (R := url_read_post r) ?_
 unfold url_read at h
 refine ssr <| un1 rfl <| un1 rfl <| dnil <| Sv.seq <| ssr <| un1 rfl ?_
 obtain ⟨c_, hx1, h⟩ := bnd h
 refine un1 (v := (.c (.val (.int .u8 (c_.toNat : Int))))) (s_idxS rfl rfl hx1) <| un1 (v := (B (!decide ((c_.toNat : Int) = 37)))) rfl <| dnil ?_
 refine Sv.cond (b := (!decide ((c_.toNat : Int) = 37))) rfl (fun hc1 => ?_) (fun hc1 => ?_)
 ·replace h := ifT hc1 h
  refine ssr <| un1 rfl ?_
  obtain ⟨c_1, hx2, h⟩ := bnd h
  refine un1 (v := (.c (.val (.int .u8 (c_1.toNat : Int))))) (s_idxS rfl rfl hx2) <| un1 rfl <| un1 rfl <| dnil <| Sv.ret ?_
  replace h := Option.some.inj h
  subst h
  exact ⟨_, .refl _, _, rfl, ⟨upd e0 0 (some (.tup [(.c (.val (.int .u8 (c_1.toNat : Int)))), (I 1)])), e0, 0⟩, (.tup [(.c (.val (.int .u8 (c_1.toNat : Int)))), (I 1)]), weak_canon [] rfl List.nodup_nil (Nat.le_refl _) nlz (.cons rfl (avAs_tup (.cons (avAs_free rfl) (.cons (avAs_free rfl) .nil))) .nil) .nil, rfl, rfl, rfl, rfl⟩
 ·replace h := ifF hc1 h
  refine Sv.skip <| Sv.seq <| ssr <| un1 rfl <| un1 (v := (I (s_.length : Int))) rfl <| un1 (v := (B (decide ((s_.length : Int) < 3)))) rfl <| un1 rfl ?_
  refine split2 (fun hc3 => ?_) (fun hc3 => ?_)
  ·replace h := ifT hc3 h
   refine gs rfl rfl <| gs rfl rfl <| gs rfl rfl <| gs rfl rfl <| un1 (v := (B true)) rfl <| un1 rfl <| gs rfl rfl <| gs rfl rfl <| gs rfl rfl <| gs rfl rfl <| un1 (v := (B true)) rfl <| dnil ?_
   exact Sv.weak (wcn [] rfl (.cf rfl rfl (.cf rfl rfl .nil)) .nil) (url_read_j1_ok h)
  ·replace h := ifF hc3 h
   refine gt rfl <| a1 rfl ?_
   obtain ⟨c_4, hx5, h⟩ := bnd h
   refine gt rfl <| a1 (v := (.c (.val (.int .u8 (c_4.toNat : Int))))) (s_idxS rfl rfl hx5) ?_
   obtain ⟨r_2, hr3, h⟩ := bnd h
   refine gt rfl <| ac_pure (url_value_ok hr3) rfl rfl rfl <| gt rfl <| a1 (v := (B (decide (r_2 < 0)))) rfl <| un1 (v := (B (decide (r_2 < 0)))) rfl <| un1 rfl ?_
   refine split2 (fun hc4 => ?_) (fun hc4 => ?_)
   ·replace h := ifT hc4 h
    refine gs rfl rfl <| gs rfl rfl <| gs rfl rfl <| gs rfl rfl <| un1 (v := (B true)) rfl <| dnil ?_
    exact Sv.weak (wcn [] rfl (.cf rfl rfl (.cf rfl rfl .nil)) .nil) (url_read_j1_ok h)
   ·replace h := ifF hc4 h
    refine gt rfl <| a1 rfl ?_
    obtain ⟨c_5, hx6, h⟩ := bnd h
    refine gt rfl <| a1 (v := (.c (.val (.int .u8 (c_5.toNat : Int))))) (s_idxS rfl rfl hx6) ?_
    obtain ⟨r_3, hr4, h⟩ := bnd h
    refine gt rfl <| ac_pure (url_value_ok hr4) rfl rfl rfl <| gt rfl <| a1 (v := (B (decide (r_3 < 0)))) rfl <| un1 (v := (B (decide (r_3 < 0)))) rfl <| dnil ?_
    exact Sv.weak (wcn [] rfl (.cf rfl rfl (.cf rfl rfl .nil)) .nil) (url_read_j1_ok h)
def a86_c0 : ACode := .ret
def a86 : AFunc := ⟨1, [(.tmp 2)], (.seq (.region [⟨(some 2), (.mov (.const (.c (.val (.bool false))))), none⟩])
 (.seq (.region [(mV 3 0), (oP 4 (.call 42 [(.tmp 3)])), (mV 5 4), ⟨(some 6), (.mov (.tmp 0)), (some (5, false))⟩, ⟨(some 7), (.call 43 [(.tmp 6), (.const (.c (.str [48, 49, 50, 51, 52, 53, 54, 55, 56, 57, 45, 46, 95, 126])))]), (some (5, false))⟩, ⟨(some 8), (.pick (.tmp 5) (.const (.c (.val (.bool true)))) (.tmp 7)), none⟩, (mV 2 8)])
 a86_c0))⟩
set_option maxRecDepth 100000 in
theorem c86 : compFunc Tryz.prog 86 = some a86 := by kernel_rfl
def url_plain_post (r : Bool) : AV → Heap → Nat → Prop := fun v h' n' => v = (B r) ∧ (h' = e0) ∧ n' = 0
noncomputable def url_plain_j1 (v2 : Bool) : Option Bool :=
 some v2
theorem url_plain_j1_ok {mL : Int} {v2 : Bool} {o : Bool} (h : url_plain_j1 v2 = some o) :
  Sv Tryz.prog (GG mL) 0 a86_c0 (Ends a86.results 0 (url_plain_post o)) ⟨(upd e0 2 (some (B v2))), e0, 0⟩ := by
 unfold url_plain_j1 at h
 refine Sv.ret ?_
 replace h := Option.some.inj h
 subst h
 exact ⟨_, .refl _, _, rfl, ⟨upd e0 0 (some (B v2)), e0, 0⟩, (B v2), weak_canon [] rfl List.nodup_nil (Nat.le_refl _) nlz (.cf rfl rfl .nil) .nil, rfl, rfl, rfl, rfl⟩
/-- clerestory/url.plain -/
noncomputable def url_plain (c_ : Int) : Option Bool :=
 if (url_letter c_) then
  url_plain_j1 true
 else
  (url_in c_ [48, 49, 50, 51, 52, 53, 54, 55, 56, 57, 45, 46, 95, 126]).bind fun r_ =>
  url_plain_j1 r_
theorem url_plain_ok {mL : Int} {c_ : Int} {r : Bool} (h : url_plain c_ = some r) : CPure Tryz.prog (GG mL) 86 [(.c (.val (.int .u8 c_)))] (B r) := by
 refine acalls_of_sv hmix c86 (R := url_plain_post r) ?_
 unfold url_plain at h
 refine ssr <| un1 rfl <| dnil <| ssr <| un1 rfl <| un <| ac_pure (url_letter_ok (mL := mL) c_) rfl rfl rfl <| un1 rfl ?_
 refine split2 (fun hc1 => ?_) (fun hc1 => ?_)
 ·replace h := ifT hc1 h
  refine gs rfl rfl <| gs rfl rfl <| un1 (v := (B true)) rfl <| un1 rfl <| dnil ?_
  exact Sv.weak (wcn [] rfl (.cf rfl rfl .nil) .nil) (url_plain_j1_ok h)
 ·replace h := ifF hc1 h
  refine gt rfl <| a1 rfl ?_
  obtain ⟨r_, hr1, h⟩ := bnd h
  refine gt rfl <| ac_pure (url_in_ok hr1) rfl rfl rfl <| un1 (v := (B r_)) rfl <| un1 rfl <| dnil ?_
  exact Sv.weak (wcn [] rfl (.cf rfl rfl .nil) .nil) (url_plain_j1_ok h)
noncomputable abbrev sb_WriteByte (l : List UInt8) (x0 : Int) : Option Tx := bWriteByte? l x0
/-- (*strings.Builder).WriteByte, by my own walk of it -/
theorem sb_WriteByte_ok {mL : Int} {z : Bool} {l : List UInt8} {x0 : Int} {r : List UInt8} (hz : z = true → l = []) (h : sb_WriteByte l x0 = some r) : ACalls Tryz.prog (GG mL) 87 [.c (.ref 0 2 0 0), (.c (.val (.int .u8 x0)))] (bldH 76 5 z l) 2 (bPost 76 5 (.c (.val .nilIface)) r) := bWriteByte_ok blays b167 hz h
def a88 : AFunc := ⟨1, [(.tmp 2)], (.seq (.region [⟨(some 2), (.mov (.const (.c (.str [])))), none⟩])
 (.seq (.drawn (.fin [((mV 3 0), (0, 0)), (⟨(some 4), (.bin .shr (.tmp 3) (.const (.c (.val (.int .u64 4))))), none⟩, (0, 1)), ((mV 5 0), (0, 2)), (⟨(some 6), (.bin .shr (.tmp 5) (.const (.c (.val (.int .u64 4))))), none⟩, (0, 3)), (⟨(some 7), (.bin .add (.tmp 6) (.const (.c (.val (.int .u8 1))))), none⟩, (0, 4)), (⟨(some 8), (.slStr (.const (.c (.str [48, 49, 50, 51, 52, 53, 54, 55, 56, 57, 65, 66, 67, 68, 69, 70]))) (some (.tmp 4)) (some (.tmp 7))), none⟩, (0, 5)), (⟨(some 9), (.bin .add (.const (.c (.str [37]))) (.tmp 8)), none⟩, (0, 6)), ((mV 10 0), (0, 7)), (⟨(some 11), (.bin .and (.tmp 10) (.const (.c (.val (.int .u8 15))))), none⟩, (0, 8)), ((mV 12 0), (0, 9)), (⟨(some 13), (.bin .and (.tmp 12) (.const (.c (.val (.int .u8 15))))), none⟩, (0, 10)), (⟨(some 14), (.bin .add (.tmp 13) (.const (.c (.val (.int .u8 1))))), none⟩, (0, 11)), (⟨(some 15), (.slStr (.const (.c (.str [48, 49, 50, 51, 52, 53, 54, 55, 56, 57, 65, 66, 67, 68, 69, 70]))) (some (.tmp 11)) (some (.tmp 14))), none⟩, (0, 12)), ((oP 16 (.bin .add (.tmp 9) (.tmp 15))), (0, 13)), ((mV 2 16), (0, 14))]))
 .ret))⟩
set_option maxRecDepth 100000 in
theorem c88 : compFunc Tryz.prog 88 = some a88 := by kernel_rfl
def url_triple_post (r : Tx) : AV → Heap → Nat → Prop := fun v h' n' => v = (S r) ∧ (h' = e0) ∧ n' = 0
/-- clerestory/url.triple -/
noncomputable def url_triple (c_ : Int) : Option Tx :=
 (sub? [48, 49, 50, 51, 52, 53, 54, 55, 56, 57, 65, 66, 67, 68, 69, 70] (shr .u8 c_ 4) (wr .u8 ((shr .u8 c_ 4) + 1))).bind fun r_ =>
 (cat? [37] r_).bind fun r_1 =>
 (sub? [48, 49, 50, 51, 52, 53, 54, 55, 56, 57, 65, 66, 67, 68, 69, 70] (bitsV .and .u8 c_ 15) (wr .u8 ((bitsV .and .u8 c_ 15) + 1))).bind fun r_2 =>
 (cat? r_1 r_2).bind fun r_3 =>
 some r_3
theorem url_triple_ok {mL : Int} {c_ : Int} {r : Tx} (h : url_triple c_ = some r) : CPure Tryz.prog (GG mL) 88 [(.c (.val (.int .u8 c_)))] (S r) := by
 refine acalls_of_sv hmix c88 (R := url_triple_post r) ?_
 unfold url_triple at h
 refine ssr <| un1 rfl <| dnil <| Sv.seq <| Sv.drawn <| un1 rfl <| un1 (v := (.c (.val (.int .u8 (shr .u8 c_ 4))))) rfl <| un1 rfl <| un1 (v := (.c (.val (.int .u8 (shr .u8 c_ 4))))) rfl <| un1 (v := (.c (.val (.int .u8 (wr .u8 ((shr .u8 c_ 4) + 1)))))) rfl ?_
 obtain ⟨r_, hx1, h⟩ := bnd h
 refine un1 (v := (S r_)) (s_slStr rfl rfl rfl hx1) ?_
 obtain ⟨r_1, hx2, h⟩ := bnd h
 refine un1 (v := (S r_1)) (s_cat rfl rfl hx2) <| un1 rfl <| un1 (v := (.c (.val (.int .u8 (bitsV .and .u8 c_ 15))))) rfl <| un1 rfl <| un1 (v := (.c (.val (.int .u8 (bitsV .and .u8 c_ 15))))) rfl <| un1 (v := (.c (.val (.int .u8 (wr .u8 ((bitsV .and .u8 c_ 15) + 1)))))) rfl ?_
 obtain ⟨r_2, hx3, h⟩ := bnd h
 refine un1 (v := (S r_2)) (s_slStr rfl rfl rfl hx3) ?_
 obtain ⟨r_3, hx4, h⟩ := bnd h
 refine un1 (v := (S r_3)) (s_cat rfl rfl hx4) <| un1 rfl <| dnil <| Sv.ret ?_
 replace h := Option.some.inj h
 subst h
 exact ⟨_, .refl _, _, rfl, ⟨upd e0 0 (some (S r_3)), e0, 0⟩, (S r_3), weak_canon [] rfl List.nodup_nil (Nat.le_refl _) nlz (.cf rfl rfl .nil) .nil, rfl, rfl, rfl, rfl⟩
noncomputable abbrev sb_WriteString (l : List UInt8) (x0 : Tx) : Option Tx := bWriteString? l x0
/-- (*strings.Builder).WriteString, by my own walk of it -/
theorem sb_WriteString_ok {mL : Int} {z : Bool} {l : List UInt8} {x0 : Tx} {r : List UInt8} (hz : z = true → l = []) (h : sb_WriteString l x0 = some r) : ACalls Tryz.prog (GG mL) 64 [.c (.ref 0 2 0 0), (S x0)] (bldH 76 5 z l) 2 (bPost 76 5 (.tup [.c (.val (.int .i64 (x0.length : Int))), .c (.val .nilIface)]) r) := bWriteString_ok blays b166 hz h
/-- (*strings.Builder).String, by my own walk of it -/
theorem sb_String_ok {mL : Int} {z : Bool} {l : List UInt8} (hz : z = true → l = []) : ACalls Tryz.prog (GG mL) 66 [.c (.ref 0 2 0 0)] (bldH 76 5 z l) 2 (fun v h' n' => v = .c (.str l) ∧ h' = e0 ∧ n' = 2) := bString_ok bL bX hz
def a54_c0 : ACode := (.cond (.tmp 20) (.region [(mV 31 5), (oP 32 (.call 87 [(.tmp 4), (.tmp 31)]))]) (.region [(mV 14 5), (oP 15 (.call 88 [(.tmp 14)])), (oP 16 (.call 64 [(.tmp 4), (.tmp 15)]))]))
def a54_c1 : ACode := (.region [(mV 33 0), (mV 34 6), (oP 35 (.slStr (.tmp 33) (some (.tmp 34)) none)), (mV 0 35)])
def a54_c2 : ACode := (.seq (.seq (.region [(mV 7 0), ⟨(some 8), (.bin .neq (.tmp 7) (.const (.c (.str [])))), none⟩])
 (.cond (.tmp 8) .skip (.exit 0)))
 (.block 1 (.seq (.region [(mV 10 0), (oP 11 (.call 85 [(.tmp 10)])), (mV 9 11), (oP 12 (.ext (.tmp 9) 0)), (oP 13 (.ext (.tmp 9) 1)), (mV 5 12), (mV 6 13)])
 (.seq (.block 2 (.seq (.region [(mV 18 6), ⟨(some 19), (.bin .eql (.tmp 18) (kI 0)), none⟩, (mV 17 19)])
 (.cond (.tmp 17) (.seq (.region [⟨(some 2), (.mov (.const (.c (.str [])))), none⟩, ⟨(some 3), (.mov (.const (.c (.val (.bool false))))), none⟩])
 .ret) (.seq (.region [(mV 21 5), (oP 22 (.call 86 [(.tmp 21)])), (mV 23 22), ⟨(some 24), (.mov (.tmp 6)), (some (23, false))⟩, ⟨(some 25), (.bin .eql (.tmp 24) (kI 1)), (some (23, false))⟩, ⟨(some 26), (.mov (.tmp 25)), (some (23, false))⟩, ⟨(some 27), (.mov (.tmp 5)), (some (26, true))⟩, ⟨(some 28), (.call 43 [(.tmp 27), (.const (.c (.str [33, 36, 38, 39, 40, 41, 42, 43, 44, 59, 61, 58, 64, 47, 63])))]), (some (26, true))⟩, ⟨(some 29), (.pick (.tmp 26) (.tmp 28) (.const (.c (.val (.bool false))))), (some (23, false))⟩, ⟨(some 30), (.pick (.tmp 23) (.const (.c (.val (.bool true)))) (.tmp 29)), none⟩, (mV 20 30)])
 a54_c0))))
 a54_c1))))
def a54 : AFunc := ⟨1, [(.tmp 2), (.tmp 3)], (.seq (.region [⟨(some 2), (.mov (.const (.c (.str [])))), none⟩, ⟨(some 3), (.mov (.const (.c (.val (.bool false))))), none⟩])
 (.seq (.region [(oP 4 (.boxB 76))])
 (.seq (.block 0 (.loop a54_c2))
 (.seq (.region [(oP 36 (.call 66 [(.tmp 4)])), (mV 2 36), ⟨(some 3), (.mov (.const (.c (.val (.bool true))))), none⟩])
 .ret))))⟩
set_option maxRecDepth 100000 in
theorem c54 : compFunc Tryz.prog 54 = some a54 := by kernel_rfl
def url_clean_post (r : (Tx × Bool)) : AV → Heap → Nat → Prop := fun v h' n' => v = (.tup [(S r.1), (B r.2)]) ∧ (h' = e0) ∧ n' = 0
abbrev url_clean_q0 (mL : Int) (Q : AExit → St → Prop) : AExit → St → Prop := ABlock 1 Q
noncomputable def url_clean_j11 (s_1 : Tx) (r_ : (Int × Int)) (self : Tx → Tx → Option (Tx × Bool)) (K0_ : Tx → Option (Tx × Bool)) (out2 : Tx) : Option (Tx × Bool) :=
 (sub? s_1 r_.2 (s_1.length : Int)).bind fun r_1 =>
 self r_1 out2
theorem url_clean_j11_ok {mL : Int} {Q : AExit → St → Prop} {s_1 : Tx} {r_ : (Int × Int)} {self : Tx → Tx → Option (Tx × Bool)} {K0_ : Tx → Option (Tx × Bool)} {out2 : Tx} {zout2 : Bool} (hzout2 : zout2 = true → out2 = []) {o : (Tx × Bool)} (h : url_clean_j11 s_1 r_ self K0_ out2 = some o)
  (hself : ∀ (s_1 : Tx) (out : Tx) (zout : Bool) (_ : zout = true → out = []), self s_1 out = some o → ∀ s, Weak 0 s ⟨(upd (upd e0 0 (some (S s_1))) 4 (some (.c (.ref 0 2 0 0)))), (upd (upd e0 0 (some (.bld 76 zout 1 out.length))) 1 (bufB zout 5 out)), 2⟩ → (Q) .normal s)
  (hK0 : ∀ (out1 : Tx) (zout1 : Bool) (_ : zout1 = true → out1 = []), K0_ out1 = some o → ∀ s, Weak 0 s ⟨(upd e0 4 (some (.c (.ref 0 2 0 0)))), (upd (upd e0 0 (some (.bld 76 zout1 1 out1.length))) 1 (bufB zout1 5 out1)), 2⟩ → Q (.exit 0) s)
  (hr : ∀ s, Ends a54.results 0 (url_clean_post o) .ret s → Q .ret s) :
  Sv Tryz.prog (GG mL) 0 a54_c1 (url_clean_q0 mL Q) ⟨(upd (upd (upd e0 0 (some (S s_1))) 4 (some (.c (.ref 0 2 0 0)))) 6 (some (I r_.2))), (upd (upd e0 0 (some (.bld 76 zout2 1 out2.length))) 1 (bufB zout2 5 out2)), 2⟩ := by
 unfold url_clean_j11 at h
 refine srg <| un1 rfl <| un1 rfl ?_
 obtain ⟨r_1, hx1, h⟩ := bnd h
 refine un1 (v := (S r_1)) (s_slStr rfl rfl rfl hx1) <| un1 rfl <| dnil ?_
 exact hself r_1 out2 zout2 hzout2 h _ (wcn [0, 1] rfl (.cons rfl (.c (.ref rfl (by decide))) (.cf rfl rfl .nil)) (.buf (by decide) rfl (.box (by decide) rfl (.bld rfl (by decide)) .nil)))
abbrev url_clean_q1 (mL : Int) (Q : AExit → St → Prop) : AExit → St → Prop := AThen (Sv Tryz.prog (GG mL) 0 a54_c1 (url_clean_q0 mL Q)) (url_clean_q0 mL Q)
abbrev url_clean_q2 (mL : Int) (Q : AExit → St → Prop) : AExit → St → Prop := ABlock 2 (url_clean_q1 mL Q)
noncomputable def url_clean_j12 (r_ : (Int × Int)) (s_1 : Tx) (self : Tx → Tx → Option (Tx × Bool)) (K0_ : Tx → Option (Tx × Bool)) (out3 : Tx) (v20 : Bool) : Option (Tx × Bool) :=
 if v20 then
  (sb_WriteByte out3 r_.1).bind fun r_2 =>
  url_clean_j11 s_1 r_ self K0_ r_2
 else
  (url_triple r_.1).bind fun r_3 =>
  (sb_WriteString out3 r_3).bind fun r_4 =>
  url_clean_j11 s_1 r_ self K0_ r_4
theorem url_clean_j12_ok {mL : Int} {Q : AExit → St → Prop} {r_ : (Int × Int)} {s_1 : Tx} {self : Tx → Tx → Option (Tx × Bool)} {K0_ : Tx → Option (Tx × Bool)} {out3 : Tx} {v20 : Bool} {zout3 : Bool} (hzout3 : zout3 = true → out3 = []) {o : (Tx × Bool)} (h : url_clean_j12 r_ s_1 self K0_ out3 v20 = some o)
  (hself : ∀ (s_1 : Tx) (out : Tx) (zout : Bool) (_ : zout = true → out = []), self s_1 out = some o → ∀ s, Weak 0 s ⟨(upd (upd e0 0 (some (S s_1))) 4 (some (.c (.ref 0 2 0 0)))), (upd (upd e0 0 (some (.bld 76 zout 1 out.length))) 1 (bufB zout 5 out)), 2⟩ → (Q) .normal s)
  (hK0 : ∀ (out1 : Tx) (zout1 : Bool) (_ : zout1 = true → out1 = []), K0_ out1 = some o → ∀ s, Weak 0 s ⟨(upd e0 4 (some (.c (.ref 0 2 0 0)))), (upd (upd e0 0 (some (.bld 76 zout1 1 out1.length))) 1 (bufB zout1 5 out1)), 2⟩ → Q (.exit 0) s)
  (hr : ∀ s, Ends a54.results 0 (url_clean_post o) .ret s → Q .ret s) :
  Sv Tryz.prog (GG mL) 0 a54_c0 (url_clean_q2 mL Q) ⟨(upd (upd (upd (upd (upd e0 0 (some (S s_1))) 4 (some (.c (.ref 0 2 0 0)))) 5 (some (.c (.val (.int .u8 r_.1))))) 6 (some (I r_.2))) 20 (some (B v20))), (upd (upd e0 0 (some (.bld 76 zout3 1 out3.length))) 1 (bufB zout3 5 out3)), 2⟩ := by
 unfold url_clean_j12 at h
 refine Sv.cond (b := v20) rfl (fun hc3 => ?_) (fun hc3 => ?_)
 ·replace h := ifT hc3 h
  refine srg <| un1 rfl ?_
  obtain ⟨r_2, hr2, h⟩ := bnd h
  refine un <| ac_gen (bs := [0, 1]) («as» := [(.c (.ref 0 2 0 0)), (.c (.val (.int .u8 r_.1)))]) (h2 := _) (h1 := (upd (upd e0 0 (some (.bld 76 zout3 1 out3.length))) 1 (bufB zout3 5 out3))) (sb_WriteByte_ok (z := zout3) (l := out3) hzout3 hr2) rfl (.cons (.c (.ref rfl (by decide))) (.cons (avAs_free rfl) .nil)) (hsub_refl _) (.cons rfl (.cons rfl (.nil _))) (fun h => by cases h) (by decide) (by decide) (.cons (.c (.ref rfl (by decide))) (.cons (avAs_free rfl) .nil)) (.buf (by decide) rfl (.box (by decide) rfl (.bld rfl (by decide)) .nil)) ?_
  rintro _ _ _ hn ⟨z_, hz_, rfl, rfl, rfl⟩
  refine ⟨.inl rfl, (upd (upd (rem [0, 1] _) 0 (some (.bld 76 z_ 2 r_2.length))) 2 (bufB z_ 5 r_2)), fun hbd => (m3_cons (m3_buf rfl) (m3_cons (m3_box rfl rfl) (m3_rem (in_cons (by decide) (in_cons (by decide) (in_nil _))) (.cons (by decide) (.cons (by decide) .nil)) hbd))), (.c (.val .nilIface)), 3, (by cases z_ <;> rfl), rfl, ?_⟩
  refine dnil ?_
  exact Sv.weak (wcn [0, 2] rfl (.cf rfl rfl (.cons rfl (.c (.ref rfl (by decide))) (.cf rfl rfl .nil))) (.buf (by decide) rfl (.box (by decide) rfl (.bld rfl (by decide)) .nil))) (url_clean_j11_ok hz_ h hself hK0 hr)
 ·replace h := ifF hc3 h
  refine srg <| un1 rfl ?_
  obtain ⟨r_3, hr3, h⟩ := bnd h
  refine un <| ac_pure (url_triple_ok hr3) rfl rfl rfl ?_
  obtain ⟨r_4, hr4, h⟩ := bnd h
  refine un <| ac_gen (bs := [0, 1]) («as» := [(.c (.ref 0 2 0 0)), (S r_3)]) (h2 := _) (h1 := (upd (upd e0 0 (some (.bld 76 zout3 1 out3.length))) 1 (bufB zout3 5 out3))) (sb_WriteString_ok (z := zout3) (l := out3) hzout3 hr4) rfl (.cons (.c (.ref rfl (by decide))) (.cons (avAs_free rfl) .nil)) (hsub_refl _) (.cons rfl (.cons rfl (.nil _))) (fun h => by cases h) (by decide) (by decide) (.cons (.c (.ref rfl (by decide))) (.cons (avAs_free rfl) .nil)) (.buf (by decide) rfl (.box (by decide) rfl (.bld rfl (by decide)) .nil)) ?_
  rintro _ _ _ hn ⟨z_1, hz_1, rfl, rfl, rfl⟩
  refine ⟨.inl rfl, (upd (upd (rem [0, 1] _) 0 (some (.bld 76 z_1 2 r_4.length))) 2 (bufB z_1 5 r_4)), fun hbd => (m3_cons (m3_buf rfl) (m3_cons (m3_box rfl rfl) (m3_rem (in_cons (by decide) (in_cons (by decide) (in_nil _))) (.cons (by decide) (.cons (by decide) .nil)) hbd))), (.tup [(I (r_3.length : Int)), (.c (.val .nilIface))]), 3, (by cases z_1 <;> rfl), rfl, ?_⟩
  refine dnil ?_
  exact Sv.weak (wcn [0, 2] rfl (.cf rfl rfl (.cons rfl (.c (.ref rfl (by decide))) (.cf rfl rfl .nil))) (.buf (by decide) rfl (.box (by decide) rfl (.bld rfl (by decide)) .nil))) (url_clean_j11_ok hz_1 h hself hK0 hr)
noncomputable def url_clean_l0 (K0_ : Tx → Option (Tx × Bool)) : Nat → Tx → Tx → Option (Tx × Bool)
 | 0, _, _ => none
 | k + 1, s_1, out =>
  if (!decide (s_1 = [])) then
   (url_read s_1).bind fun r_ =>
   if decide (r_.2 = 0) then
    some ([], false)
   else
    (url_plain r_.1).bind fun r_5 =>
    if r_5 then
     url_clean_j12 r_ s_1 (url_clean_l0 K0_ k) K0_ out true
    else
     if decide (r_.2 = 1) then
      (url_in r_.1 [33, 36, 38, 39, 40, 41, 42, 43, 44, 59, 61, 58, 64, 47, 63]).bind fun r_6 =>
      url_clean_j12 r_ s_1 (url_clean_l0 K0_ k) K0_ out r_6
     else
      url_clean_j12 r_ s_1 (url_clean_l0 K0_ k) K0_ out false
  else
   K0_ out
theorem url_clean_l0_ok {mL : Int} {Q : AExit → St → Prop} {K0_ : Tx → Option (Tx × Bool)} {k : Nat} {s_1 : Tx} {out : Tx} {zout : Bool} (hzout : zout = true → out = []) {o : (Tx × Bool)} (h : url_clean_l0 K0_ k s_1 out = some o)
  (hK0 : ∀ (out1 : Tx) (zout1 : Bool) (_ : zout1 = true → out1 = []), K0_ out1 = some o → ∀ s, Weak 0 s ⟨(upd e0 4 (some (.c (.ref 0 2 0 0)))), (upd (upd e0 0 (some (.bld 76 zout1 1 out1.length))) 1 (bufB zout1 5 out1)), 2⟩ → Q (.exit 0) s)
  (hr : ∀ s, Ends a54.results 0 (url_clean_post o) .ret s → Q .ret s) :
  Sv Tryz.prog (GG mL) 0 (.loop a54_c2) Q ⟨(upd (upd e0 0 (some (S s_1))) 4 (some (.c (.ref 0 2 0 0)))), (upd (upd e0 0 (some (.bld 76 zout 1 out.length))) 1 (bufB zout 5 out)), 2⟩ := by
 refine Sv.loop (I := fun k s => ∃ (s_1 : Tx), ∃ (out : Tx), ∃ (zout : Bool), (zout = true → out = []) ∧ url_clean_l0 K0_ k s_1 out = some o ∧ s = ⟨(upd (upd e0 0 (some (S s_1))) 4 (some (.c (.ref 0 2 0 0)))), (upd (upd e0 0 (some (.bld 76 zout 1 out.length))) 1 (bufB zout 5 out)), 2⟩) (fun k s hI => ?_) ⟨s_1, out, zout, hzout, h, rfl⟩
 clear h
 clear hzout zout out s_1
 obtain ⟨s_1, out, zout, hzout, h, rfl⟩ := hI
 cases k with
 | zero => cases h
 | succ k =>
 rw [url_clean_l0] at h
 have hself : ∀ (s_1 : Tx) (out : Tx) (zout : Bool) (_ : zout = true → out = []), (url_clean_l0 K0_ k) s_1 out = some o → ∀ s, Weak 0 s ⟨(upd (upd e0 0 (some (S s_1))) 4 (some (.c (.ref 0 2 0 0)))), (upd (upd e0 0 (some (.bld 76 zout 1 out.length))) 1 (bufB zout 5 out)), 2⟩ → (AThen (fun s' => ∃ s'' k', Weak 0 s' s'' ∧ k' < k + 1 ∧ (fun k s => ∃ (s_1 : Tx), ∃ (out : Tx), ∃ (zout : Bool), (zout = true → out = []) ∧ url_clean_l0 K0_ k s_1 out = some o ∧ s = ⟨(upd (upd e0 0 (some (S s_1))) 4 (some (.c (.ref 0 2 0 0)))), (upd (upd e0 0 (some (.bld 76 zout 1 out.length))) 1 (bufB zout 5 out)), 2⟩) k' s'') Q) .normal s := fun s_1 out zout hzout h s hw => ⟨_, k, hw, Nat.lt_succ_self k, s_1, out, zout, hzout, h, rfl⟩
 refine Sv.seq <| ssr <| un1 rfl <| un1 (v := (B (!decide (s_1 = [])))) rfl <| dnil ?_
 refine Sv.cond (b := (!decide (s_1 = []))) rfl (fun hc1 => ?_) (fun hc1 => ?_)
 ·replace h := ifT hc1 h
  refine Sv.skip <| Sv.block <| ssr <| un1 rfl ?_
  obtain ⟨r_, hr1, h⟩ := bnd h
  refine un <| ac_pure (url_read_ok hr1) rfl rfl rfl <| un1 rfl <| un1 (v := (.c (.val (.int .u8 r_.1)))) rfl <| un1 (v := (I r_.2)) rfl <| un1 rfl <| un1 rfl <| dnil <| Sv.seq <| Sv.block <| ssr <| un1 rfl <| un1 (v := (B (decide (r_.2 = 0)))) rfl <| un1 rfl <| dnil ?_
  refine Sv.cond (b := decide (r_.2 = 0)) rfl (fun hc2 => ?_) (fun hc2 => ?_)
  ·replace h := ifT hc2 h
   refine ssr <| un1 rfl <| un1 rfl <| dnil <| Sv.ret ?_
   replace h := Option.some.inj h
   subst h
   exact hr _ ⟨_, .refl _, _, rfl, ⟨upd e0 0 (some (.tup [(S []), (B false)])), e0, 0⟩, (.tup [(S []), (B false)]), weak_canon [] rfl List.nodup_nil (Nat.le_refl _) nlz (.cons rfl (avAs_tup (.cons (avAs_free rfl) (.cons (avAs_free rfl) .nil))) .nil) .nil, rfl, rfl, rfl, rfl⟩
  ·replace h := ifF hc2 h
   refine ssr <| un1 rfl ?_
   obtain ⟨r_5, hr5, h⟩ := bnd h
   refine un <| ac_pure (url_plain_ok hr5) rfl rfl rfl <| un1 rfl ?_
   refine split2 (fun hc4 => ?_) (fun hc4 => ?_)
   ·replace h := ifT hc4 h
    refine gs rfl rfl <| gs rfl rfl <| gs rfl rfl <| gu rfl <| gu rfl <| gs rfl rfl <| un1 (v := (B true)) rfl <| un1 rfl <| dnil ?_
    exact Sv.weak (wcn [0, 1] rfl (.cf rfl rfl (.cf rfl rfl (.cf rfl rfl (.cons rfl (.c (.ref rfl (by decide))) (.cf rfl rfl .nil))))) (.buf (by decide) rfl (.box (by decide) rfl (.bld rfl (by decide)) .nil))) (url_clean_j12_ok hzout h hself hK0 hr)
   ·replace h := ifF hc4 h
    refine gt rfl <| a1 rfl <| gt rfl <| a1 (v := (B (decide (r_.2 = 1)))) rfl <| gt rfl <| a1 rfl ?_
    refine split2 (fun hc5 => ?_) (fun hc5 => ?_)
    ·replace h := ifT hc5 h
     refine gt rfl <| a1 rfl ?_
     obtain ⟨r_6, hr6, h⟩ := bnd h
     refine gt rfl <| ac_pure (url_in_ok hr6) rfl rfl rfl <| gt rfl <| a1 (v := (B r_6)) rfl <| un1 (v := (B r_6)) rfl <| un1 rfl <| dnil ?_
     exact Sv.weak (wcn [0, 1] rfl (.cf rfl rfl (.cf rfl rfl (.cf rfl rfl (.cons rfl (.c (.ref rfl (by decide))) (.cf rfl rfl .nil))))) (.buf (by decide) rfl (.box (by decide) rfl (.bld rfl (by decide)) .nil))) (url_clean_j12_ok hzout h hself hK0 hr)
    ·replace h := ifF hc5 h
     refine gs rfl rfl <| gs rfl rfl <| gt rfl <| a1 (v := (B false)) rfl <| un1 (v := (B false)) rfl <| un1 rfl <| dnil ?_
     exact Sv.weak (wcn [0, 1] rfl (.cf rfl rfl (.cf rfl rfl (.cf rfl rfl (.cons rfl (.c (.ref rfl (by decide))) (.cf rfl rfl .nil))))) (.buf (by decide) rfl (.box (by decide) rfl (.bld rfl (by decide)) .nil))) (url_clean_j12_ok hzout h hself hK0 hr)
 ·replace h := ifF hc1 h
  refine Sv.exit ?_
  exact hK0 out zout hzout h _ (wcn [0, 1] rfl (.cons rfl (.c (.ref rfl (by decide))) .nil) (.buf (by decide) rfl (.box (by decide) rfl (.bld rfl (by decide)) .nil)))
/-- clerestory/url.clean -/
noncomputable def url_clean (s_ : Tx) : Option (Tx × Bool) :=
 lim fun kk => url_clean_l0 (fun (out1 : Tx) => 
   some (out1, true)) kk s_ ([] : List UInt8)
theorem url_clean_ok {mL : Int} {s_ : Tx} {r : (Tx × Bool)} (h : url_clean s_ = some r) : CPure Tryz.prog (GG mL) 54 [(S s_)] (.tup [(S r.1), (B r.2)]) := by
 refine acalls_of_sv hmix c54 (R := url_clean_post r) ?_
 unfold url_clean at h
 refine ssr <| un1 rfl <| un1 rfl <| dnil <| ssr <| un <| a2v (v := (.c (.ref 1 2 0 0))) (h' := upd _ 1 (some (.bld 76 true 0 ([] : List UInt8).length))) (n' := 2) rfl rfl (fun h => by cases h) <| dnil <| Sv.seq <| Sv.block ?_
 obtain ⟨kk, h⟩ := lim_some h
 refine Sv.weak (wcn [1, 1000] rfl (.cons rfl (.c (.ref rfl (by decide))) (.cf rfl rfl .nil)) (.nonB (by decide) (.box (by decide) rfl (.bldN (by decide)) .nil))) (url_clean_l0_ok (fun _ => rfl) h ?_ (fun s hs => hs))
 ·intro out1 zout1 hzout1 h _ hw1
  refine Sv.weak hw1 <| ssr <| un <| ac_gen (bs := [0, 1]) («as» := [(.c (.ref 0 2 0 0))]) (h2 := _) (h1 := (upd (upd e0 0 (some (.bld 76 zout1 1 out1.length))) 1 (bufB zout1 5 out1))) (sb_String_ok (z := zout1) (l := out1) hzout1) rfl (.cons (.c (.ref rfl (by decide))) .nil) (hsub_refl _) (.cons rfl (.cons rfl (.nil _))) (fun h => by cases h) (by decide) (by decide) (.cons (.c (.ref rfl (by decide))) .nil) (.buf (by decide) rfl (.box (by decide) rfl (.bld rfl (by decide)) .nil)) ?_
  rintro _ _ _ hn ⟨rfl, rfl, rfl⟩
  refine ⟨.inl rfl, (rem [0, 1] _), fun hbd => (m3_rem (in_cons (by decide) (in_cons (by decide) (in_nil _))) (.nil) hbd), (S out1), 2, rfl, rfl, ?_⟩
  refine un1 rfl <| un1 rfl <| dnil <| Sv.ret ?_
  replace h := Option.some.inj h
  subst h
  exact ⟨_, .refl _, _, rfl, ⟨upd e0 0 (some (.tup [(S out1), (B true)])), e0, 0⟩, (.tup [(S out1), (B true)]), weak_canon [] rfl List.nodup_nil (Nat.le_refl _) nlz (.cons rfl (avAs_tup (.cons (avAs_free rfl) (.cons (avAs_free rfl) .nil))) .nil) .nil, rfl, rfl, rfl, rfl⟩
def a21 : AFunc := ⟨2, [(.tmp 4), (.tmp 5)], (.seq (.region [⟨(some 4), (.mov (.const (.c (.str [])))), none⟩, ⟨(some 5), (.mov (.const (.c (.val (.bool false))))), none⟩])
 (.seq (.region [(mV 14 1), ⟨(some 15), (.call 49 [(.tmp 14), (.const (.c (.str [35])))]), none⟩, (mV 13 15), (oP 16 (.ext (.tmp 13) 0)), (oP 17 (.ext (.tmp 13) 1)), (oP 18 (.ext (.tmp 13) 2)), (mV 1 16), (mV 6 17), (mV 7 18)])
 (.seq (.region [(mV 20 1), ⟨(some 21), (.call 49 [(.tmp 20), (.const (.c (.str [63])))]), none⟩, (mV 19 21), (oP 22 (.ext (.tmp 19) 0)), (oP 23 (.ext (.tmp 19) 1)), (oP 24 (.ext (.tmp 19) 2)), (mV 8 22), (mV 9 23), (mV 10 24)])
 (.seq (.region [⟨(some 11), (.mov (.const (.c (.val (.bool false))))), none⟩, ⟨(some 12), (.mov (.const (.c (.val (.bool false))))), none⟩])
 (.seq (.region [(mV 25 0), (mV 26 0), (mV 27 10), (mV 28 7), (oP 29 (.nilc (.tmp 25))), (oP 30 (.faddr 5 (.tmp 29))), ⟨none, (.store 1 (.tmp 30) (.tmp 27)), none⟩, (oP 31 (.nilc (.tmp 26))), (oP 32 (.faddr 7 (.tmp 31))), ⟨none, (.store 1 (.tmp 32) (.tmp 28)), none⟩])
 (.seq (.region [(mV 34 0), (mV 35 9), (oP 36 (.call 54 [(.tmp 35)])), (mV 33 36), (oP 37 (.ext (.tmp 33) 0)), (oP 38 (.ext (.tmp 33) 1)), (oP 39 (.nilc (.tmp 34))), (oP 40 (.faddr 4 (.tmp 39))), ⟨none, (.store 1 (.tmp 40) (.tmp 37)), none⟩, (mV 11 38)])
 (.seq (.region [(mV 42 0), (mV 43 6), (oP 44 (.call 54 [(.tmp 43)])), (mV 41 44), (oP 45 (.ext (.tmp 41) 0)), (oP 46 (.ext (.tmp 41) 1)), (oP 47 (.nilc (.tmp 42))), (oP 48 (.faddr 6 (.tmp 47))), ⟨none, (.store 1 (.tmp 48) (.tmp 45)), none⟩, (mV 12 46)])
 (.seq (.region [(mV 49 8), (mV 50 11), (mV 51 50), ⟨(some 52), (.mov (.tmp 12)), (some (51, true))⟩, ⟨(some 53), (.pick (.tmp 51) (.tmp 52) (.const (.c (.val (.bool false))))), none⟩, (mV 4 49), (mV 5 53)])
 .ret))))))))⟩
set_option maxRecDepth 100000 in
theorem c21 : compFunc Tryz.prog 21 = some a21 := by kernel_rfl
def url_tail1_post (r : (Tx × Bool × TJUrl)) : AV → Heap → Nat → Prop := fun v h' n' => ∃ z0 : Bool, (z0 = true → r.2.2.Path = []) ∧ v = (.tup [(S r.1), (B r.2.1)]) ∧ (h' = (upd (upd e0 0 (some (.cells 8 [[.str r.2.2.Scheme, .str r.2.2.Host, cI r.2.2.Port, lstC z0 2 1 r.2.2.Path.length, .str r.2.2.Query, cB r.2.2.Asks, .str r.2.2.Fragment, cB r.2.2.Points]]))) 2 (lstB z0 1 (r.2.2.Path.map eStr)))) ∧ n' = 3
/-- clerestory/url.tail -/
noncomputable def url_tail1 (u_ : TJUrl) (s_ : Tx) : Option (Tx × Bool × TJUrl) :=
 (strings_Cut s_ [35]).bind fun r_ =>
 (strings_Cut r_.1 [63]).bind fun r_1 =>
 (url_clean r_1.2.1).bind fun r_2 =>
 (url_clean r_.2.1).bind fun r_3 =>
 some (r_1.1, (r_2.2 && r_3.2), (⟨u_.Scheme, u_.Host, u_.Port, u_.Path, r_2.1, r_1.2.2, r_3.1, r_.2.2⟩ : TJUrl))
theorem url_tail1_ok {mL : Int} {u_ : TJUrl} {s_ : Tx} {zu : Bool} (hzu : zu = true → u_.Path = []) {r : (Tx × Bool × TJUrl)} (h : url_tail1 u_ s_ = some r) : ACalls Tryz.prog (GG mL) 21 [(.c (.ref 0 8 0 0)), (S s_)] (upd (upd e0 0 (some (.cells 8 [[.str u_.Scheme, .str u_.Host, cI u_.Port, lstC zu 1 1 u_.Path.length, .str u_.Query, cB u_.Asks, .str u_.Fragment, cB u_.Points]]))) 1 (lstB zu 1 (u_.Path.map eStr))) 2 (url_tail1_post r) := by
 refine acalls_of_sv hmix c21 (R := url_tail1_post r) ?_
 unfold url_tail1 at h
 refine ssr <| un1 rfl <| un1 rfl <| dnil <| ssr <| un1 rfl ?_
 obtain ⟨r_, hr1, h⟩ := bnd h
 refine un <| ac_pure (strings_Cut_ok hr1) rfl rfl rfl <| un1 rfl <| un1 (v := (S r_.1)) rfl <| un1 (v := (S r_.2.1)) rfl <| un1 (v := (B r_.2.2)) rfl <| un1 rfl <| un1 rfl <| un1 rfl <| dnil <| ssr <| un1 rfl ?_
 obtain ⟨r_1, hr2, h⟩ := bnd h
 refine un <| ac_pure (strings_Cut_ok hr2) rfl rfl rfl <| un1 rfl <| un1 (v := (S r_1.1)) rfl <| un1 (v := (S r_1.2.1)) rfl <| un1 (v := (B r_1.2.2)) rfl <| un1 rfl <| un1 rfl <| un1 rfl <| dnil <| ssr <| un1 rfl <| un1 rfl <| dnil <| ssr <| un1 rfl <| un1 rfl <| un1 rfl <| un1 rfl <| un1 (v := (.c (.ref 0 8 0 0))) rfl <| un1 (v := (.c (.ref 0 8 0 5))) rfl <| un <| a2n (h' := upd _ 0 (some (.cells 8 [[.str u_.Scheme, .str u_.Host, cI u_.Port, lstC zu 1 1 u_.Path.length, .str u_.Query, cB r_1.2.2, .str u_.Fragment, cB u_.Points]]))) (n' := 2) rfl rfl (fun h => by cases h) <| un1 (v := (.c (.ref 0 8 0 0))) rfl <| un1 (v := (.c (.ref 0 8 0 7))) rfl <| un <| a2n (h' := upd _ 0 (some (.cells 8 [[.str u_.Scheme, .str u_.Host, cI u_.Port, lstC zu 1 1 u_.Path.length, .str u_.Query, cB r_1.2.2, .str u_.Fragment, cB r_.2.2]]))) (n' := 2) rfl rfl (fun h => by cases h) <| dnil <| ssr <| un1 rfl <| un1 rfl ?_
 obtain ⟨r_2, hr3, h⟩ := bnd h
 refine un <| ac_pure (url_clean_ok hr3) rfl rfl rfl <| un1 rfl <| un1 (v := (S r_2.1)) rfl <| un1 (v := (B r_2.2)) rfl <| un1 (v := (.c (.ref 0 8 0 0))) rfl <| un1 (v := (.c (.ref 0 8 0 4))) rfl <| un <| a2n (h' := upd _ 0 (some (.cells 8 [[.str u_.Scheme, .str u_.Host, cI u_.Port, lstC zu 1 1 u_.Path.length, .str r_2.1, cB r_1.2.2, .str u_.Fragment, cB r_.2.2]]))) (n' := 2) rfl rfl (fun h => by cases h) <| un1 rfl <| dnil <| ssr <| un1 rfl <| un1 rfl ?_
 obtain ⟨r_3, hr4, h⟩ := bnd h
 refine un <| ac_pure (url_clean_ok hr4) rfl rfl rfl <| un1 rfl <| un1 (v := (S r_3.1)) rfl <| un1 (v := (B r_3.2)) rfl <| un1 (v := (.c (.ref 0 8 0 0))) rfl <| un1 (v := (.c (.ref 0 8 0 6))) rfl <| un <| a2n (h' := upd _ 0 (some (.cells 8 [[.str u_.Scheme, .str u_.Host, cI u_.Port, lstC zu 1 1 u_.Path.length, .str r_2.1, cB r_1.2.2, .str r_3.1, cB r_.2.2]]))) (n' := 2) rfl rfl (fun h => by cases h) <| un1 rfl <| dnil <| ssr <| un1 rfl <| un1 rfl <| un1 rfl ?_
 refine gjoin 2 (d := 53) (v := (B (r_2.2 && r_3.2))) (fun X hX => ?_) ?_
 ·refine split2 (fun hc1 => ?_) (fun hc1 => ?_)
  ·refine gt rfl <| a1 rfl <| un1 (v := (B r_3.2)) rfl <| dnil ?_
   exact hX _ (.putEq (by rw [hc1]; rfl) (.skip _ _ (.putEq (by rw [hc1]) (.refl _)) rfl))
  ·refine gs rfl rfl <| un1 (v := (B false)) rfl <| dnil ?_
   exact hX _ (.putEq (by rw [hc1]; rfl) (.skip _ _ (.putEq (by rw [hc1]) (.refl _)) rfl))
 refine un1 rfl <| un1 rfl <| dnil <| Sv.ret ?_
 replace h := Option.some.inj h
 subst h
 exact ⟨_, .refl _, _, rfl, ⟨upd e0 0 (some (.tup [(S r_1.1), (B (r_2.2 && r_3.2))])), (upd (upd e0 0 (some (.cells 8 [[.str u_.Scheme, .str u_.Host, cI u_.Port, lstC zu 2 1 u_.Path.length, .str r_2.1, cB r_1.2.2, .str r_3.1, cB r_.2.2]]))) 2 (lstB zu 1 (u_.Path.map eStr))), 3⟩, (.tup [(S r_1.1), (B (r_2.2 && r_3.2))]), weak_canon2 [0, 1, 1] [0, 2] (by decide) (by decide) (by decide) (.cons (by decide) (.cons (by decide) .nil)) (.cons rfl (avAs_tup (.cons (avAs_free rfl) (.cons (avAs_free rfl) .nil))) .nil) (.row (by decide) rfl (fr_map fun _ => rfl) (.box (by decide) rfl (blkAs_cells (.sm rfl (.sm rfl (.sm rfl (.cons (lstC_ren rfl (by decide)) (.sm rfl (.sm rfl (.sm rfl (.sm rfl .nil))))))))) .nil)), rfl, zu, hzu, rfl, rfl, rfl⟩
def a57 : AFunc := ⟨2, [(.tmp 4)], (.seq (.region [⟨(some 4), (.mov (.const (.c (.str [])))), none⟩])
 (.seq (.seq (.region [(mV 5 0), (mV 6 1), (oP 7 (.call 59 [(.tmp 5), (.tmp 6)]))])
 (.cond (.tmp 7) (.seq (.region [(mV 8 0), (mV 9 1), (oP 10 (.lenS (.tmp 9))), (oP 11 (.slStr (.tmp 8) (some (.tmp 10)) none)), (mV 4 11)])
 .ret) .skip))
 (.seq (.region [(mV 12 0), (mV 4 12)])
 .ret)))⟩
set_option maxRecDepth 100000 in
theorem c57 : compFunc Tryz.prog 57 = some a57 := by kernel_rfl
def sl_TrimPrefix_post (r : Tx) : AV → Heap → Nat → Prop := fun v h' n' => v = (S r) ∧ (h' = e0) ∧ n' = 0
/-- internal/stringslite.TrimPrefix -/
noncomputable def sl_TrimPrefix (s_ : Tx) (prefix_ : Tx) : Option Tx :=
 (sl_HasPrefix s_ prefix_).bind fun r_ =>
 if r_ then
  (sub? s_ (prefix_.length : Int) (s_.length : Int)).bind fun r_1 =>
  some r_1
 else
  some s_
theorem sl_TrimPrefix_ok {mL : Int} {s_ : Tx} {prefix_ : Tx} {r : Tx} (h : sl_TrimPrefix s_ prefix_ = some r) : CPure Tryz.prog (GG mL) 57 [(S s_), (S prefix_)] (S r) := by
 refine acalls_of_sv hmix c57 (R := sl_TrimPrefix_post r) ?_
 unfold sl_TrimPrefix at h
 refine ssr <| un1 rfl <| dnil <| Sv.seq <| ssr <| un1 rfl <| un1 rfl ?_
 obtain ⟨r_, hr1, h⟩ := bnd h
 refine un <| ac_pure (sl_HasPrefix_ok hr1) rfl rfl rfl <| dnil ?_
 refine Sv.cond (b := r_) rfl (fun hc1 => ?_) (fun hc1 => ?_)
 ·replace h := ifT hc1 h
  refine ssr <| un1 rfl <| un1 rfl <| un1 (v := (I (prefix_.length : Int))) rfl ?_
  obtain ⟨r_1, hx1, h⟩ := bnd h
  refine un1 (v := (S r_1)) (s_slStr rfl rfl rfl hx1) <| un1 rfl <| dnil <| Sv.ret ?_
  replace h := Option.some.inj h
  subst h
  exact ⟨_, .refl _, _, rfl, ⟨upd e0 0 (some (S r_1)), e0, 0⟩, (S r_1), weak_canon [] rfl List.nodup_nil (Nat.le_refl _) nlz (.cf rfl rfl .nil) .nil, rfl, rfl, rfl, rfl⟩
 ·replace h := ifF hc1 h
  refine Sv.skip <| ssr <| un1 rfl <| un1 rfl <| dnil <| Sv.ret ?_
  replace h := Option.some.inj h
  subst h
  exact ⟨_, .refl _, _, rfl, ⟨upd e0 0 (some (S s_)), e0, 0⟩, (S s_), weak_canon [] rfl List.nodup_nil (Nat.le_refl _) nlz (.cf rfl rfl .nil) .nil, rfl, rfl, rfl, rfl⟩
def a23 : AFunc := ⟨2, [(.tmp 4)], (.seq (.region [⟨(some 4), (.mov (.const (.c (.str [])))), none⟩])
 (.seq (.region [(mV 5 0), (mV 6 1), (oP 7 (.call 57 [(.tmp 5), (.tmp 6)])), (mV 4 7)])
 .ret))⟩
set_option maxRecDepth 100000 in
theorem c23 : compFunc Tryz.prog 23 = some a23 := by kernel_rfl
def strings_TrimPrefix_post (r : Tx) : AV → Heap → Nat → Prop := fun v h' n' => v = (S r) ∧ (h' = e0) ∧ n' = 0
/-- strings.TrimPrefix -/
noncomputable def strings_TrimPrefix (s_ : Tx) (prefix_ : Tx) : Option Tx :=
 (sl_TrimPrefix s_ prefix_).bind fun r_ =>
 some r_
theorem strings_TrimPrefix_ok {mL : Int} {s_ : Tx} {prefix_ : Tx} {r : Tx} (h : strings_TrimPrefix s_ prefix_ = some r) : CPure Tryz.prog (GG mL) 23 [(S s_), (S prefix_)] (S r) := by
 refine acalls_of_sv hmix c23 (R := strings_TrimPrefix_post r) ?_
 unfold strings_TrimPrefix at h
 refine ssr <| un1 rfl <| dnil <| ssr <| un1 rfl <| un1 rfl ?_
 obtain ⟨r_, hr1, h⟩ := bnd h
 refine un <| ac_pure (sl_TrimPrefix_ok hr1) rfl rfl rfl <| un1 rfl <| dnil <| Sv.ret ?_
 replace h := Option.some.inj h
 subst h
 exact ⟨_, .refl _, _, rfl, ⟨upd e0 0 (some (S r_)), e0, 0⟩, (S r_), weak_canon [] rfl List.nodup_nil (Nat.le_refl _) nlz (.cf rfl rfl .nil) .nil, rfl, rfl, rfl, rfl⟩
def a56_c0 : ACode := (.seq (.seq (.region [(mV 7 0), ⟨(some 8), (.bin .neq (.tmp 7) (.const (.c (.str [])))), none⟩])
 (.cond (.tmp 8) .skip (.exit 0)))
 (.block 1 (.seq (.region [(mV 10 0), (oP 11 (.call 85 [(.tmp 10)])), (mV 9 11), (oP 12 (.ext (.tmp 9) 0)), (oP 13 (.ext (.tmp 9) 1)), (mV 5 12), (mV 6 13)])
 (.seq (.seq (.region [(mV 14 6), ⟨(some 15), (.bin .eql (.tmp 14) (kI 0)), none⟩])
 (.cond (.tmp 15) (.seq (.region [⟨(some 2), (.mov (.const (.c (.str [])))), none⟩, ⟨(some 3), (.mov (kI 3)), none⟩])
 .ret) .skip))
 (.seq (.region [(mV 16 4), (mV 17 5), (oP 18 (.bslice 1 [(.val (.int .u8 0))] 1 [(0, (.tmp 17))])), (oP 19 (.app 1 1 (.tmp 16) (.tmp 18))), (mV 4 19)])
 (.region [(mV 20 0), (mV 21 6), (oP 22 (.slStr (.tmp 20) (some (.tmp 21)) none)), (mV 0 22)]))))))
def a56 : AFunc := ⟨1, [(.tmp 2), (.tmp 3)], (.seq (.region [⟨(some 2), (.mov (.const (.c (.str [])))), none⟩, ⟨(some 3), (.mov (kI 0)), none⟩])
 (.seq (.region [⟨(some 4), (.mov (.const (.c (.ro true 1 [])))), none⟩])
 (.seq (.block 0 (.loop a56_c0))
 (.seq (.region [(mV 23 4), (oP 24 (.ofBytes (.tmp 23))), (mV 2 24), ⟨(some 3), (.mov (kI 0)), none⟩])
 .ret))))⟩
set_option maxRecDepth 100000 in
theorem c56 : compFunc Tryz.prog 56 = some a56 := by kernel_rfl
def url_Decode_post (r : (Tx × Int)) : AV → Heap → Nat → Prop := fun v h' n' => v = (.tup [(S r.1), (I r.2)]) ∧ (h' = e0) ∧ n' = 0
noncomputable def url_Decode_l0 (K0_ : (List Int) → Option (Tx × Int)) : Nat → Tx → (List Int) → Option (Tx × Int)
 | 0, _, _ => none
 | k + 1, s_1, out =>
  if (!decide (s_1 = [])) then
   (url_read s_1).bind fun r_ =>
   if decide (r_.2 = 0) then
    some ([], 3)
   else
    (app? 1 out [r_.1]).bind fun r_1 =>
    (sub? s_1 r_.2 (s_1.length : Int)).bind fun r_2 =>
    (url_Decode_l0 K0_ k) r_2 r_1
  else
   K0_ out
theorem url_Decode_l0_ok {mL : Int} {Q : AExit → St → Prop} {K0_ : (List Int) → Option (Tx × Int)} {k : Nat} {s_1 : Tx} {out : (List Int)} {zout : Bool} (hzout : zout = true → out = []) {o : (Tx × Int)} (h : url_Decode_l0 K0_ k s_1 out = some o)
  (hK0 : ∀ (out1 : (List Int)) (zout1 : Bool) (_ : zout1 = true → out1 = []), K0_ out1 = some o → ∀ s, Weak 0 s ⟨(upd e0 4 (some (lstV zout1 0 1 out1.length))), (upd e0 0 (lstB zout1 1 (out1.map (eK .u8)))), 1⟩ → Q (.exit 0) s)
  (hr : ∀ s, Ends a56.results 0 (url_Decode_post o) .ret s → Q .ret s) :
  Sv Tryz.prog (GG mL) 0 (.loop a56_c0) Q ⟨(upd (upd e0 0 (some (S s_1))) 4 (some (lstV zout 0 1 out.length))), (upd e0 0 (lstB zout 1 (out.map (eK .u8)))), 1⟩ := by
 refine Sv.loop (I := fun k s => ∃ (s_1 : Tx), ∃ (out : (List Int)), ∃ (zout : Bool), (zout = true → out = []) ∧ url_Decode_l0 K0_ k s_1 out = some o ∧ s = ⟨(upd (upd e0 0 (some (S s_1))) 4 (some (lstV zout 0 1 out.length))), (upd e0 0 (lstB zout 1 (out.map (eK .u8)))), 1⟩) (fun k s hI => ?_) ⟨s_1, out, zout, hzout, h, rfl⟩
 clear h
 clear hzout zout out s_1
 obtain ⟨s_1, out, zout, hzout, h, rfl⟩ := hI
 cases k with
 | zero => cases h
 | succ k =>
 rw [url_Decode_l0] at h
 have hself : ∀ (s_1 : Tx) (out : (List Int)) (zout : Bool) (_ : zout = true → out = []), (url_Decode_l0 K0_ k) s_1 out = some o → ∀ s, Weak 0 s ⟨(upd (upd e0 0 (some (S s_1))) 4 (some (lstV zout 0 1 out.length))), (upd e0 0 (lstB zout 1 (out.map (eK .u8)))), 1⟩ → (AThen (fun s' => ∃ s'' k', Weak 0 s' s'' ∧ k' < k + 1 ∧ (fun k s => ∃ (s_1 : Tx), ∃ (out : (List Int)), ∃ (zout : Bool), (zout = true → out = []) ∧ url_Decode_l0 K0_ k s_1 out = some o ∧ s = ⟨(upd (upd e0 0 (some (S s_1))) 4 (some (lstV zout 0 1 out.length))), (upd e0 0 (lstB zout 1 (out.map (eK .u8)))), 1⟩) k' s'') Q) .normal s := fun s_1 out zout hzout h s hw => ⟨_, k, hw, Nat.lt_succ_self k, s_1, out, zout, hzout, h, rfl⟩
 refine Sv.seq <| ssr <| un1 rfl <| un1 (v := (B (!decide (s_1 = [])))) rfl <| dnil ?_
 refine Sv.cond (b := (!decide (s_1 = []))) rfl (fun hc1 => ?_) (fun hc1 => ?_)
 ·replace h := ifT hc1 h
  refine Sv.skip <| Sv.block <| ssr <| un1 rfl ?_
  obtain ⟨r_, hr1, h⟩ := bnd h
  refine un <| ac_pure (url_read_ok hr1) rfl rfl rfl <| un1 rfl <| un1 (v := (.c (.val (.int .u8 r_.1)))) rfl <| un1 (v := (I r_.2)) rfl <| un1 rfl <| un1 rfl <| dnil <| Sv.seq <| ssr <| un1 rfl <| un1 (v := (B (decide (r_.2 = 0)))) rfl <| dnil ?_
  refine Sv.cond (b := decide (r_.2 = 0)) rfl (fun hc2 => ?_) (fun hc2 => ?_)
  ·replace h := ifT hc2 h
   refine ssr <| un1 rfl <| un1 rfl <| dnil <| Sv.ret ?_
   replace h := Option.some.inj h
   subst h
   exact hr _ ⟨_, .refl _, _, rfl, ⟨upd e0 0 (some (.tup [(S []), (I 3)])), e0, 0⟩, (.tup [(S []), (I 3)]), weak_canon [] rfl List.nodup_nil (Nat.le_refl _) nlz (.cons rfl (avAs_tup (.cons (avAs_free rfl) (.cons (avAs_free rfl) .nil))) .nil) .nil, rfl, rfl, rfl, rfl⟩
  ·replace h := ifF hc2 h
   refine Sv.skip <| ssr <| un1 rfl <| un1 rfl <| un <| a2v (v := (lstV false 1 1 [r_.1].length)) (h' := upd _ 1 (lstB false 1 ([r_.1].map (eK .u8)))) (n' := 2) rfl rfl (fun h => by cases h) ?_
   obtain ⟨r_1, hr2, h⟩ := bnd h
   have hz1 : (zout && [r_.1].isEmpty) = true → r_1 = [] := app_nil (z := zout) (ys := [r_.1]) hzout hr2
   refine un <| a2v rfl (s_app (xs := out) (ys := [r_.1]) (e := (eK .u8)) (z := zout) (b := 0) rfl rfl hzout rfl rfl (slc_lst rfl (List.length_map _).symm (map_nil_of (fun h => by cases h))) hr2) (fun h => by cases h) <| un1 rfl <| dnil <| srg <| un1 rfl <| un1 rfl ?_
   obtain ⟨r_2, hx1, h⟩ := bnd h
   refine un1 (v := (S r_2)) (s_slStr rfl rfl rfl hx1) <| un1 rfl <| dnil ?_
   exact hself r_2 r_1 (zout && [r_.1].isEmpty) hz1 h _ (wcn [2] rfl (.cons rfl (.c (lstC_ren rfl (by decide))) (.cf rfl rfl .nil)) (.row (by decide) rfl (fr_map fun _ => rfl) .nil))
 ·replace h := ifF hc1 h
  refine Sv.exit ?_
  exact hK0 out zout hzout h _ (wcn [0] rfl (.cons rfl (.c (lstC_ren rfl (by decide))) .nil) (.row (by decide) rfl (fr_map fun _ => rfl) .nil))
/-- clerestory/url.Decode -/
noncomputable def url_Decode (s_ : Tx) : Option (Tx × Int) :=
 lim fun kk => url_Decode_l0 (fun (out1 : (List Int)) => 
   some ((byts out1), 0)) kk s_ ([] : List Int)
theorem url_Decode_ok {mL : Int} {s_ : Tx} {r : (Tx × Int)} (h : url_Decode s_ = some r) : CPure Tryz.prog (GG mL) 56 [(S s_)] (.tup [(S r.1), (I r.2)]) := by
 refine acalls_of_sv hmix c56 (R := url_Decode_post r) ?_
 unfold url_Decode at h
 refine ssr <| un1 rfl <| un1 rfl <| dnil <| ssr <| un1 rfl <| dnil <| Sv.seq <| Sv.block ?_
 obtain ⟨kk, h⟩ := lim_some h
 refine Sv.weak (wcn [1000] rfl (.cons rfl (.c (.same rfl)) (.cf rfl rfl .nil)) (.non (by decide) .nil)) (url_Decode_l0_ok (fun _ => rfl) h ?_ (fun s hs => hs))
 ·intro out1 zout1 hzout1 h _ hw1
  refine Sv.weak hw1 <| ssr <| un1 rfl <| un1 (v := (S (byts out1))) (s_ofBytes (xs := out1) rfl (slc_lst rfl (List.length_map _).symm (map_nil_of hzout1))) <| un1 rfl <| un1 rfl <| dnil <| Sv.ret ?_
  replace h := Option.some.inj h
  subst h
  exact ⟨_, .refl _, _, rfl, ⟨upd e0 0 (some (.tup [(S (byts out1)), (I 0)])), e0, 0⟩, (.tup [(S (byts out1)), (I 0)]), weak_canon [] rfl List.nodup_nil (Nat.le_refl _) nlz (.cons rfl (avAs_tup (.cons (avAs_free rfl) (.cons (avAs_free rfl) .nil))) .nil) .nil, rfl, rfl, rfl, rfl⟩
def a22_c0 : ACode := (.seq (.region [(oP 13 (.bin .lss (.tmp 12) (.tmp 11)))])
 (.seq (.cond (.tmp 13) .skip (.exit 0))
 (.seq (.block 1 (.seq (.region [(oP 14 (.iaddr 1 (.tmp 10) (.tmp 12))), (oP 15 (.load false 1 (.tmp 14))), (mV 6 15)])
 (.seq (.region [(mV 17 6), (oP 18 (.call 56 [(.tmp 17)])), (mV 16 18), (oP 19 (.ext (.tmp 16) 0)), (oP 20 (.ext (.tmp 16) 1)), (mV 7 19), (mV 8 20)])
 (.seq (.seq (.region [(mV 21 8), ⟨(some 22), (.bin .neq (.tmp 21) (kI 0)), none⟩])
 (.cond (.tmp 22) (.seq (.region [⟨(some 2), (.mov (.const (.c (.ro true 1 [])))), none⟩, ⟨(some 3), (.mov (.const (.c (.val (.bool false))))), none⟩])
 .ret) .skip))
 (.region [(mV 23 4), (mV 24 7), (oP 25 (.bslice 1 [(.str [])] 1 [(0, (.tmp 24))])), (oP 26 (.app 1 16 (.tmp 23) (.tmp 25))), (mV 4 26)])))))
 (.region [⟨(some 27), (.bin .add (.tmp 12) (kI 1)), none⟩, (mV 12 27)]))))
def a22 : AFunc := ⟨1, [(.tmp 2), (.tmp 3)], (.seq (.region [⟨(some 2), (.mov (.const (.c (.ro true 1 [])))), none⟩, ⟨(some 3), (.mov (.const (.c (.val (.bool false))))), none⟩])
 (.seq (.region [⟨(some 4), (.mov (.const (.c (.ro true 1 [])))), none⟩])
 (.seq (.seq (.region [(mV 9 0), ⟨(some 10), (.call 55 [(.tmp 9), (.const (.c (.str [47])))]), none⟩, (oP 11 (.len (.tmp 10))), ⟨(some 12), (.mov (kI 0)), none⟩])
 (.block 0 (.loop a22_c0)))
 (.seq (.region [(mV 28 4), (mV 2 28), ⟨(some 3), (.mov (.const (.c (.val (.bool true))))), none⟩])
 .ret))))⟩
set_option maxRecDepth 100000 in
theorem c22 : compFunc Tryz.prog 22 = some a22 := by kernel_rfl
def url_segments_post (r : (TT × Bool)) : AV → Heap → Nat → Prop := fun v h' n' => ∃ z0 : Bool, (z0 = true → r.1 = []) ∧ v = (.tup [(lstV z0 0 1 r.1.length), (B r.2)]) ∧ (h' = (upd e0 0 (lstB z0 1 (r.1.map eStr)))) ∧ n' = 1
noncomputable def url_segments_l0 (r_ : TT) (K0_ : TT → Option (TT × Bool)) : Nat → TT → TT → Int → Option (TT × Bool)
 | 0, _, _, _ => none
 | k + 1, out, v10, v12 =>
  if decide (v12 < (r_.length : Int)) then
   (at? v10 v12).bind fun x_ =>
   (url_Decode x_).bind fun r_1 =>
   if (!decide (r_1.2 = 0)) then
    some (([] : TT), false)
   else
    (app? 16 out [r_1.1]).bind fun r_2 =>
    (url_segments_l0 r_ K0_ k) r_2 v10 (wi (v12 + 1))
  else
   K0_ out
theorem url_segments_l0_ok {mL : Int} {Q : AExit → St → Prop} {r_ : TT} {K0_ : TT → Option (TT × Bool)} {k : Nat} {out : TT} {v10 : TT} {v12 : Int} {zout : Bool} (hzout : zout = true → out = []) {zv10 : Bool} (hzv10 : zv10 = true → v10 = []) {o : (TT × Bool)} (h : url_segments_l0 r_ K0_ k out v10 v12 = some o)
  (hK0 : ∀ (out1 : TT) (zout1 : Bool) (_ : zout1 = true → out1 = []), K0_ out1 = some o → ∀ s, Weak 0 s ⟨(upd e0 4 (some (lstV zout1 0 1 out1.length))), (upd e0 0 (lstB zout1 1 (out1.map eStr))), 1⟩ → Q (.exit 0) s)
  (hr : ∀ s, Ends a22.results 0 (url_segments_post o) .ret s → Q .ret s) :
  Sv Tryz.prog (GG mL) 0 (.loop a22_c0) Q ⟨(upd (upd (upd (upd e0 4 (some (lstV zout 0 1 out.length))) 10 (some (lstV zv10 1 1 v10.length))) 11 (some (I (r_.length : Int)))) 12 (some (I v12))), (upd (upd e0 0 (lstB zout 1 (out.map eStr))) 1 (lstB zv10 1 (v10.map eStr))), 2⟩ := by
 refine Sv.loop (I := fun k s => ∃ (out : TT), ∃ (v10 : TT), ∃ (v12 : Int), ∃ (zout : Bool), (zout = true → out = []) ∧ ∃ (zv10 : Bool), (zv10 = true → v10 = []) ∧ url_segments_l0 r_ K0_ k out v10 v12 = some o ∧ s = ⟨(upd (upd (upd (upd e0 4 (some (lstV zout 0 1 out.length))) 10 (some (lstV zv10 1 1 v10.length))) 11 (some (I (r_.length : Int)))) 12 (some (I v12))), (upd (upd e0 0 (lstB zout 1 (out.map eStr))) 1 (lstB zv10 1 (v10.map eStr))), 2⟩) (fun k s hI => ?_) ⟨out, v10, v12, zout, hzout, zv10, hzv10, h, rfl⟩
 clear h
 clear hzv10 hzout zv10 zout v12 v10 out
 obtain ⟨out, v10, v12, zout, hzout, zv10, hzv10, h, rfl⟩ := hI
 cases k with
 | zero => cases h
 | succ k =>
 rw [url_segments_l0] at h
 have hself : ∀ (out : TT) (v10 : TT) (v12 : Int) (zout : Bool) (_ : zout = true → out = []) (zv10 : Bool) (_ : zv10 = true → v10 = []), (url_segments_l0 r_ K0_ k) out v10 v12 = some o → ∀ s, Weak 0 s ⟨(upd (upd (upd (upd e0 4 (some (lstV zout 0 1 out.length))) 10 (some (lstV zv10 1 1 v10.length))) 11 (some (I (r_.length : Int)))) 12 (some (I v12))), (upd (upd e0 0 (lstB zout 1 (out.map eStr))) 1 (lstB zv10 1 (v10.map eStr))), 2⟩ → (AThen (fun s' => ∃ s'' k', Weak 0 s' s'' ∧ k' < k + 1 ∧ (fun k s => ∃ (out : TT), ∃ (v10 : TT), ∃ (v12 : Int), ∃ (zout : Bool), (zout = true → out = []) ∧ ∃ (zv10 : Bool), (zv10 = true → v10 = []) ∧ url_segments_l0 r_ K0_ k out v10 v12 = some o ∧ s = ⟨(upd (upd (upd (upd e0 4 (some (lstV zout 0 1 out.length))) 10 (some (lstV zv10 1 1 v10.length))) 11 (some (I (r_.length : Int)))) 12 (some (I v12))), (upd (upd e0 0 (lstB zout 1 (out.map eStr))) 1 (lstB zv10 1 (v10.map eStr))), 2⟩) k' s'') Q) .normal s := fun out v10 v12 zout hzout zv10 hzv10 h s hw => ⟨_, k, hw, Nat.lt_succ_self k, out, v10, v12, zout, hzout, zv10, hzv10, h, rfl⟩
 refine ssr <| un1 (v := (B (decide (v12 < (r_.length : Int))))) rfl <| dnil <| Sv.seq ?_
 refine Sv.cond (b := decide (v12 < (r_.length : Int))) rfl (fun hc1 => ?_) (fun hc1 => ?_)
 ·replace h := ifT hc1 h
  refine Sv.skip <| Sv.seq <| Sv.block <| ssr ?_
  obtain ⟨x_, hx1, h⟩ := bnd h
  refine un1 (v := (.c (.ref 1 1 v12.toNat 0))) (s_iaddrL rfl rfl hzv10 hx1) <| un1 (v := (S x_)) (s_loadL (z := zv10) (e := eStr) rfl rfl hzv10 hx1 rfl rfl) <| un1 rfl <| dnil <| ssr <| un1 rfl ?_
  obtain ⟨r_1, hr2, h⟩ := bnd h
  refine un <| ac_pure (url_Decode_ok hr2) rfl rfl rfl <| un1 rfl <| un1 (v := (S r_1.1)) rfl <| un1 (v := (I r_1.2)) rfl <| un1 rfl <| un1 rfl <| dnil <| Sv.seq <| ssr <| un1 rfl <| un1 (v := (B (!decide (r_1.2 = 0)))) rfl <| dnil ?_
  refine Sv.cond (b := (!decide (r_1.2 = 0))) rfl (fun hc2 => ?_) (fun hc2 => ?_)
  ·replace h := ifT hc2 h
   refine ssr <| un1 rfl <| un1 rfl <| dnil <| Sv.ret ?_
   replace h := Option.some.inj h
   subst h
   exact hr _ ⟨_, .refl _, _, rfl, ⟨upd e0 0 (some (.tup [(lstV true 0 1 ([] : TT).length), (B false)])), (upd e0 0 (lstB true 1 (([] : TT).map eStr))), 1⟩, (.tup [(lstV true 0 1 ([] : TT).length), (B false)]), weak_canon2 [1000] [0] (by decide) (by decide) nlz (.cons (by decide) .nil) (.cons rfl (avAs_tup (.cons (.c (.same rfl)) (.cons (avAs_free rfl) .nil))) .nil) (.non (by decide) .nil), rfl, true, (fun _ => rfl), rfl, rfl, rfl⟩
  ·replace h := ifF hc2 h
   refine Sv.skip <| srg <| un1 rfl <| un1 rfl <| un <| a2v (v := (lstV false 2 1 [r_1.1].length)) (h' := upd _ 2 (lstB false 1 ([r_1.1].map eStr))) (n' := 3) rfl rfl (fun h => by cases h) ?_
   obtain ⟨r_2, hr3, h⟩ := bnd h
   have hz1 : (zout && [r_1.1].isEmpty) = true → r_2 = [] := app_nil (z := zout) (ys := [r_1.1]) hzout hr3
   refine un <| a2v rfl (s_app (xs := out) (ys := [r_1.1]) (e := eStr) (z := zout) (b := 0) rfl rfl hzout rfl rfl (slc_lst rfl (List.length_map _).symm (map_nil_of (fun h => by cases h))) hr3) (fun h => by cases h) <| un1 rfl <| dnil <| srg <| un1 (v := (I (wi (v12 + 1)))) rfl <| un1 rfl <| dnil ?_
   exact hself r_2 v10 (wi (v12 + 1)) (zout && [r_1.1].isEmpty) hz1 zv10 hzv10 h _ (wcn [3, 1] rfl (.cf rfl rfl (.cf rfl rfl (.cons rfl (.c (lstC_ren rfl (by decide))) (.cons rfl (.c (lstC_ren rfl (by decide))) .nil)))) (.row (by decide) rfl (fr_map fun _ => rfl) (.row (by decide) rfl (fr_map fun _ => rfl) .nil)))
 ·replace h := ifF hc1 h
  refine Sv.exit ?_
  exact hK0 out zout hzout h _ (wcn [0] rfl (.cons rfl (.c (lstC_ren rfl (by decide))) .nil) (.row (by decide) rfl (fr_map fun _ => rfl) .nil))
/-- clerestory/url.segments -/
noncomputable def url_segments (s_ : Tx) : Option (TT × Bool) :=
 (strings_Split s_ [47]).bind fun r_ =>
 lim fun kk => url_segments_l0 r_ (fun (out1 : TT) => 
   some (out1, true)) kk ([] : TT) r_ 0
theorem url_segments_ok {mL : Int} {s_ : Tx} {r : (TT × Bool)} (h : url_segments s_ = some r) : ACalls Tryz.prog (GG mL) 22 [(S s_)] e0 0 (url_segments_post r) := by
 refine acalls_of_sv hmix c22 (R := url_segments_post r) ?_
 unfold url_segments at h
 refine ssr <| un1 rfl <| un1 rfl <| dnil <| ssr <| un1 rfl <| dnil <| Sv.seq <| ssr <| un1 rfl ?_
 obtain ⟨r_, hr1, h⟩ := bnd h
 refine un <| ac_gen (bs := []) («as» := [(S s_), (S [47])]) (h2 := _) (h1 := e0) (strings_Split_ok hr1) rfl (.cons (avAs_free rfl) (.cons (avAs_free rfl) .nil)) (hsub_refl _) (.nil _) (fun _ => rfl) (by decide) (by decide) (.cons (avAs_free rfl) (.cons (avAs_free rfl) .nil)) .nil ?_
 rintro _ _ _ hn ⟨z_, hz_, rfl, rfl, rfl⟩
 refine ⟨.inl rfl, (upd (rem [] _) 0 (lstB z_ 1 (r_.map eStr))), fun hbd => (m3_cons (m3_row rfl (fr_map fun _ => rfl)) (m3_rem (in_nil _) (.cons (by decide) .nil) hbd)), (lstV z_ 0 1 r_.length), 1, (by cases z_ <;> rfl), rfl, ?_⟩
 refine un1 (v := (I (r_.length : Int))) (s_lenL rfl (len_nil_of hz_)) <| un1 rfl <| dnil <| Sv.block ?_
 obtain ⟨kk, h⟩ := lim_some h
 refine Sv.weak (wcn [1000, 0] rfl (.cf rfl rfl (.cf rfl rfl (.cons rfl (.c (lstC_ren rfl (by decide))) (.cons rfl (.c (.same rfl)) .nil)))) (.row (by decide) rfl (fr_map fun _ => rfl) (.non (by decide) .nil))) (url_segments_l0_ok (fun _ => rfl) hz_ h ?_ (fun s hs => hs))
 ·intro out1 zout1 hzout1 h _ hw1
  refine Sv.weak hw1 <| ssr <| un1 rfl <| un1 rfl <| un1 rfl <| dnil <| Sv.ret ?_
  replace h := Option.some.inj h
  subst h
  exact ⟨_, .refl _, _, rfl, ⟨upd e0 0 (some (.tup [(lstV zout1 0 1 out1.length), (B true)])), (upd e0 0 (lstB zout1 1 (out1.map eStr))), 1⟩, (.tup [(lstV zout1 0 1 out1.length), (B true)]), weak_canon2 [0] [0] (by decide) (by decide) nlz (.cons (by decide) .nil) (.cons rfl (avAs_tup (.cons (.c (lstC_ren rfl (by decide))) (.cons (avAs_free rfl) .nil))) .nil) (.row (by decide) rfl (fr_map fun _ => rfl) .nil), rfl, zout1, hzout1, rfl, rfl, rfl⟩
def a24_c0 : ACode := (.seq (.region [(mV 35 4), (mV 36 0), (oP 37 (.len (.tmp 36))), ⟨(some 38), (.bin .sub (.tmp 37) (kI 1)), none⟩, (oP 39 (.bin .eql (.tmp 35) (.tmp 38)))])
 (.cond (.tmp 39) (.region [(mV 40 3), ⟨(some 41), (.bslice 1 [(.str [])] 1 [(0, (.const (.c (.str []))))]), none⟩, (oP 42 (.app 1 16 (.tmp 40) (.tmp 41))), (mV 3 42)]) .skip))
def a24_c1 : ACode := (.region [⟨(some 43), (.bin .add (.tmp 8) (kI 1)), none⟩, (mV 8 43)])
def a24_c2 : ACode := (.seq (.region [(oP 9 (.bin .lss (.tmp 8) (.tmp 7)))])
 (.seq (.cond (.tmp 9) .skip (.exit 0))
 (.seq (.block 1 (.seq (.region [(mV 10 8), (oP 11 (.iaddr 1 (.tmp 6) (.tmp 8))), (oP 12 (.load false 1 (.tmp 11))), (mV 4 10), (mV 5 12)])
 (.seq (.seq (.region [(mV 13 5), ⟨(some 14), (.bin .neq (.tmp 13) (.const (.c (.str [46])))), none⟩, (mV 15 14), ⟨(some 16), (.mov (.tmp 5)), (some (15, true))⟩, ⟨(some 17), (.bin .neq (.tmp 16) (.const (.c (.str [46, 46])))), (some (15, true))⟩, ⟨(some 18), (.pick (.tmp 15) (.tmp 17) (.const (.c (.val (.bool false))))), none⟩])
 (.cond (.tmp 18) (.seq (.region [(mV 19 3), (mV 20 5), (oP 21 (.bslice 1 [(.str [])] 1 [(0, (.tmp 20))])), (oP 22 (.app 1 16 (.tmp 19) (.tmp 21))), (mV 3 22)])
 (.exit 1)) .skip))
 (.seq (.seq (.region [(mV 23 5), ⟨(some 24), (.bin .eql (.tmp 23) (.const (.c (.str [46, 46])))), none⟩, (mV 25 24), ⟨(some 26), (.mov (.tmp 3)), (some (25, true))⟩, ⟨(some 27), (.len (.tmp 26)), (some (25, true))⟩, ⟨(some 28), (.bin .gtr (.tmp 27) (kI 0)), (some (25, true))⟩, ⟨(some 29), (.pick (.tmp 25) (.tmp 28) (.const (.c (.val (.bool false))))), none⟩])
 (.cond (.tmp 29) (.region [(mV 30 3), (mV 31 3), (oP 32 (.len (.tmp 31))), ⟨(some 33), (.bin .sub (.tmp 32) (kI 1)), none⟩, (oP 34 (.slSl 1 (.tmp 30) none (some (.tmp 33)) none)), (mV 3 34)]) .skip))
 a24_c0))))
 a24_c1)))
def a24_c3 : ACode := (.seq (.region [(mV 48 3), (mV 2 48)])
 .ret)
def a24 : AFunc := ⟨1, [(.tmp 2)], (.seq (.region [⟨(some 2), (.mov (.const (.c (.ro true 1 [])))), none⟩])
 (.seq (.region [⟨(some 3), (.mov (.const (.c (.ro true 1 [])))), none⟩])
 (.seq (.seq (.region [(mV 6 0), (oP 7 (.len (.tmp 6))), ⟨(some 8), (.mov (kI 0)), none⟩])
 (.block 0 (.loop a24_c2)))
 (.seq (.seq (.region [(mV 44 3), (oP 45 (.len (.tmp 44))), ⟨(some 46), (.bin .eql (.tmp 45) (kI 0)), none⟩])
 (.cond (.tmp 46) (.region [⟨(some 47), (.bslice 1 [(.str [])] 1 [(0, (.const (.c (.str []))))]), none⟩, (mV 3 47)]) .skip))
 a24_c3))))⟩
set_option maxRecDepth 100000 in
theorem c24 : compFunc Tryz.prog 24 = some a24 := by kernel_rfl
def url_tidy_post (r : TT) : AV → Heap → Nat → Prop := fun v h' n' => ∃ z0 : Bool, (z0 = true → r = []) ∧ v = (lstV z0 0 1 r.length) ∧ (h' = (upd e0 0 (lstB z0 1 (r.map eStr)))) ∧ n' = 1
noncomputable def url_tidy_j11 (v8 : Int) (l_ : TT) (self : TT → Int → Option TT) (K0_ : TT → Option TT) (out2 : TT) : Option TT :=
 self out2 (wi (v8 + 1))
theorem url_tidy_j11_ok {mL : Int} {Q : AExit → St → Prop} {v8 : Int} {l_ : TT} {self : TT → Int → Option TT} {K0_ : TT → Option TT} {out2 : TT} {zout2 : Bool} (hzout2 : zout2 = true → out2 = []) {o : TT} (h : url_tidy_j11 v8 l_ self K0_ out2 = some o)
  (hself : ∀ (out : TT) (v8 : Int) (zout : Bool) (_ : zout = true → out = []), self out v8 = some o → ∀ s, Weak 0 s ⟨(upd (upd (upd (upd (upd e0 0 (some (.c (.ro false 1 (l_.map eStr))))) 3 (some (lstV zout 0 1 out.length))) 6 (some (.c (.ro false 1 (l_.map eStr))))) 7 (some (I (l_.length : Int)))) 8 (some (I v8))), (upd e0 0 (lstB zout 1 (out.map eStr))), 1⟩ → (Q) .normal s)
  (hK0 : ∀ (out1 : TT) (zout1 : Bool) (_ : zout1 = true → out1 = []), K0_ out1 = some o → ∀ s, Weak 0 s ⟨(upd e0 3 (some (lstV zout1 0 1 out1.length))), (upd e0 0 (lstB zout1 1 (out1.map eStr))), 1⟩ → Q (.exit 0) s)
  (hr : ∀ s, Ends a24.results 0 (url_tidy_post o) .ret s → Q .ret s) :
  Sv Tryz.prog (GG mL) 0 a24_c1 Q ⟨(upd (upd (upd (upd (upd e0 0 (some (.c (.ro false 1 (l_.map eStr))))) 3 (some (lstV zout2 0 1 out2.length))) 6 (some (.c (.ro false 1 (l_.map eStr))))) 7 (some (I (l_.length : Int)))) 8 (some (I v8))), (upd e0 0 (lstB zout2 1 (out2.map eStr))), 1⟩ := by
 unfold url_tidy_j11 at h
 refine srg <| un1 (v := (I (wi (v8 + 1)))) rfl <| un1 rfl <| dnil ?_
 exact hself out2 (wi (v8 + 1)) zout2 hzout2 h _ (wcn [0] rfl (.cf rfl rfl (.cf rfl rfl (.cf rfl rfl (.cons rfl (.c (lstC_ren rfl (by decide))) (.cf rfl rfl .nil))))) (.row (by decide) rfl (fr_map fun _ => rfl) .nil))
abbrev url_tidy_q0 (mL : Int) (Q : AExit → St → Prop) : AExit → St → Prop := AThen (Sv Tryz.prog (GG mL) 0 a24_c1 Q) Q
abbrev url_tidy_q1 (mL : Int) (Q : AExit → St → Prop) : AExit → St → Prop := ABlock 1 (url_tidy_q0 mL Q)
noncomputable def url_tidy_j12 (v8 : Int) (l_ : TT) (self : TT → Int → Option TT) (K0_ : TT → Option TT) (out3 : TT) : Option TT :=
 if decide (v8 = (wi ((l_.length : Int) - 1))) then
  (app? 16 out3 ([[]] : TT)).bind fun r_1 =>
  url_tidy_j11 v8 l_ self K0_ r_1
 else
  url_tidy_j11 v8 l_ self K0_ out3
theorem url_tidy_j12_ok {mL : Int} {Q : AExit → St → Prop} {v8 : Int} {l_ : TT} {self : TT → Int → Option TT} {K0_ : TT → Option TT} {out3 : TT} {zout3 : Bool} (hzout3 : zout3 = true → out3 = []) {o : TT} (h : url_tidy_j12 v8 l_ self K0_ out3 = some o)
  (hself : ∀ (out : TT) (v8 : Int) (zout : Bool) (_ : zout = true → out = []), self out v8 = some o → ∀ s, Weak 0 s ⟨(upd (upd (upd (upd (upd e0 0 (some (.c (.ro false 1 (l_.map eStr))))) 3 (some (lstV zout 0 1 out.length))) 6 (some (.c (.ro false 1 (l_.map eStr))))) 7 (some (I (l_.length : Int)))) 8 (some (I v8))), (upd e0 0 (lstB zout 1 (out.map eStr))), 1⟩ → (Q) .normal s)
  (hK0 : ∀ (out1 : TT) (zout1 : Bool) (_ : zout1 = true → out1 = []), K0_ out1 = some o → ∀ s, Weak 0 s ⟨(upd e0 3 (some (lstV zout1 0 1 out1.length))), (upd e0 0 (lstB zout1 1 (out1.map eStr))), 1⟩ → Q (.exit 0) s)
  (hr : ∀ s, Ends a24.results 0 (url_tidy_post o) .ret s → Q .ret s) :
  Sv Tryz.prog (GG mL) 0 a24_c0 (url_tidy_q1 mL Q) ⟨(upd (upd (upd (upd (upd (upd e0 0 (some (.c (.ro false 1 (l_.map eStr))))) 3 (some (lstV zout3 0 1 out3.length))) 4 (some (I v8))) 6 (some (.c (.ro false 1 (l_.map eStr))))) 7 (some (I (l_.length : Int)))) 8 (some (I v8))), (upd e0 0 (lstB zout3 1 (out3.map eStr))), 1⟩ := by
 unfold url_tidy_j12 at h
 refine ssr <| un1 rfl <| un1 rfl <| un1 (v := (I (l_.length : Int))) (s_len (e := eStr) (xs := l_) rfl) <| un1 (v := (I (wi ((l_.length : Int) - 1)))) rfl <| un1 (v := (B (decide (v8 = (wi ((l_.length : Int) - 1)))))) rfl <| dnil ?_
 refine Sv.cond (b := decide (v8 = (wi ((l_.length : Int) - 1)))) rfl (fun hc4 => ?_) (fun hc4 => ?_)
 ·replace h := ifT hc4 h
  refine srg <| un1 rfl <| un <| a2v (v := (lstV false 1 1 ([[]] : TT).length)) (h' := upd _ 1 (lstB false 1 (([[]] : TT).map eStr))) (n' := 2) rfl rfl (fun h => by cases h) ?_
  obtain ⟨r_1, hr2, h⟩ := bnd h
  have hz2 : (zout3 && ([[]] : TT).isEmpty) = true → r_1 = [] := app_nil (z := zout3) (ys := ([[]] : TT)) hzout3 hr2
  refine un <| a2v rfl (s_app (xs := out3) (ys := ([[]] : TT)) (e := eStr) (z := zout3) (b := 0) rfl rfl hzout3 rfl rfl (slc_lst rfl (List.length_map _).symm (map_nil_of (fun h => by cases h))) hr2) (fun h => by cases h) <| un1 rfl <| dnil ?_
  exact Sv.weak (wcn [2] rfl (.cf rfl rfl (.cf rfl rfl (.cf rfl rfl (.cons rfl (.c (lstC_ren rfl (by decide))) (.cf rfl rfl .nil))))) (.row (by decide) rfl (fr_map fun _ => rfl) .nil)) (url_tidy_j11_ok hz2 h hself hK0 hr)
 ·replace h := ifF hc4 h
  refine Sv.skip ?_
  exact Sv.weak (wcn [0] rfl (.cf rfl rfl (.cf rfl rfl (.cf rfl rfl (.cons rfl (.c (lstC_ren rfl (by decide))) (.cf rfl rfl .nil))))) (.row (by decide) rfl (fr_map fun _ => rfl) .nil)) (url_tidy_j11_ok hzout3 h hself hK0 hr)
noncomputable def url_tidy_l0 (l_ : TT) (K0_ : TT → Option TT) : Nat → TT → Int → Option TT
 | 0, _, _ => none
 | k + 1, out, v8 =>
  if decide (v8 < (l_.length : Int)) then
   (at? l_ v8).bind fun x_ =>
   if ((!decide (x_ = [46])) && (!decide (x_ = [46, 46]))) then
    (app? 16 out [x_]).bind fun r_ =>
    url_tidy_j11 v8 l_ (url_tidy_l0 l_ K0_ k) K0_ r_
   else
    if ((decide (x_ = [46, 46])) && (decide (0 < (out.length : Int)))) then
     (sub? out 0 (wi ((out.length : Int) - 1))).bind fun r_2 =>
     url_tidy_j12 v8 l_ (url_tidy_l0 l_ K0_ k) K0_ r_2
    else
     url_tidy_j12 v8 l_ (url_tidy_l0 l_ K0_ k) K0_ out
  else
   K0_ out
theorem url_tidy_l0_ok {mL : Int} {Q : AExit → St → Prop} {l_ : TT} {K0_ : TT → Option TT} {k : Nat} {out : TT} {v8 : Int} {zout : Bool} (hzout : zout = true → out = []) {o : TT} (h : url_tidy_l0 l_ K0_ k out v8 = some o)
  (hK0 : ∀ (out1 : TT) (zout1 : Bool) (_ : zout1 = true → out1 = []), K0_ out1 = some o → ∀ s, Weak 0 s ⟨(upd e0 3 (some (lstV zout1 0 1 out1.length))), (upd e0 0 (lstB zout1 1 (out1.map eStr))), 1⟩ → Q (.exit 0) s)
  (hr : ∀ s, Ends a24.results 0 (url_tidy_post o) .ret s → Q .ret s) :
  Sv Tryz.prog (GG mL) 0 (.loop a24_c2) Q ⟨(upd (upd (upd (upd (upd e0 0 (some (.c (.ro false 1 (l_.map eStr))))) 3 (some (lstV zout 0 1 out.length))) 6 (some (.c (.ro false 1 (l_.map eStr))))) 7 (some (I (l_.length : Int)))) 8 (some (I v8))), (upd e0 0 (lstB zout 1 (out.map eStr))), 1⟩ := by
 refine Sv.loop (I := fun k s => ∃ (out : TT), ∃ (v8 : Int), ∃ (zout : Bool), (zout = true → out = []) ∧ url_tidy_l0 l_ K0_ k out v8 = some o ∧ s = ⟨(upd (upd (upd (upd (upd e0 0 (some (.c (.ro false 1 (l_.map eStr))))) 3 (some (lstV zout 0 1 out.length))) 6 (some (.c (.ro false 1 (l_.map eStr))))) 7 (some (I (l_.length : Int)))) 8 (some (I v8))), (upd e0 0 (lstB zout 1 (out.map eStr))), 1⟩) (fun k s hI => ?_) ⟨out, v8, zout, hzout, h, rfl⟩
 clear h
 clear hzout zout v8 out
 obtain ⟨out, v8, zout, hzout, h, rfl⟩ := hI
 cases k with
 | zero => cases h
 | succ k =>
 rw [url_tidy_l0] at h
 have hself : ∀ (out : TT) (v8 : Int) (zout : Bool) (_ : zout = true → out = []), (url_tidy_l0 l_ K0_ k) out v8 = some o → ∀ s, Weak 0 s ⟨(upd (upd (upd (upd (upd e0 0 (some (.c (.ro false 1 (l_.map eStr))))) 3 (some (lstV zout 0 1 out.length))) 6 (some (.c (.ro false 1 (l_.map eStr))))) 7 (some (I (l_.length : Int)))) 8 (some (I v8))), (upd e0 0 (lstB zout 1 (out.map eStr))), 1⟩ → (AThen (fun s' => ∃ s'' k', Weak 0 s' s'' ∧ k' < k + 1 ∧ (fun k s => ∃ (out : TT), ∃ (v8 : Int), ∃ (zout : Bool), (zout = true → out = []) ∧ url_tidy_l0 l_ K0_ k out v8 = some o ∧ s = ⟨(upd (upd (upd (upd (upd e0 0 (some (.c (.ro false 1 (l_.map eStr))))) 3 (some (lstV zout 0 1 out.length))) 6 (some (.c (.ro false 1 (l_.map eStr))))) 7 (some (I (l_.length : Int)))) 8 (some (I v8))), (upd e0 0 (lstB zout 1 (out.map eStr))), 1⟩) k' s'') Q) .normal s := fun out v8 zout hzout h s hw => ⟨_, k, hw, Nat.lt_succ_self k, out, v8, zout, hzout, h, rfl⟩
 refine ssr <| un1 (v := (B (decide (v8 < (l_.length : Int))))) rfl <| dnil <| Sv.seq ?_
 refine Sv.cond (b := decide (v8 < (l_.length : Int))) rfl (fun hc1 => ?_) (fun hc1 => ?_)
 ·replace h := ifT hc1 h
  refine Sv.skip <| Sv.seq <| Sv.block <| ssr <| un1 rfl ?_
  obtain ⟨x_, hx1, h⟩ := bnd h
  refine un1 (v := (.c (.rop [.str x_]))) (s_iaddr (e := eStr) (xs := l_) rfl rfl hx1) <| un1 (v := (S x_)) rfl <| un1 rfl <| un1 rfl <| dnil <| Sv.seq <| ssr <| un1 rfl <| un1 (v := (B (!decide (x_ = [46])))) rfl <| un1 rfl ?_
  refine gjoin 3 (d := 18) (v := (B ((!decide (x_ = [46])) && (!decide (x_ = [46, 46]))))) (fun X hX => ?_) ?_
  ·refine split2 (fun hc2 => ?_) (fun hc2 => ?_)
   ·refine gt rfl <| a1 rfl <| gt rfl <| a1 (v := (B (!decide (x_ = [46, 46])))) rfl <| un1 (v := (B (!decide (x_ = [46, 46])))) rfl <| dnil ?_
    exact hX _ (.putEq (by rw [hc2]; rfl) (.skip _ _ (.skip _ _ (.putEq (by rw [hc2]) (.refl _)) rfl) rfl))
   ·refine gs rfl rfl <| gs rfl rfl <| un1 (v := (B false)) rfl <| dnil ?_
    exact hX _ (.putEq (by rw [hc2]; rfl) (.skip _ _ (.skip _ _ (.putEq (by rw [hc2]) (.refl _)) rfl) rfl))
  refine dnil ?_
  refine Sv.cond (b := ((!decide (x_ = [46])) && (!decide (x_ = [46, 46])))) rfl (fun hc3 => ?_) (fun hc3 => ?_)
  ·replace h := ifT hc3 h
   refine ssr <| un1 rfl <| un1 rfl <| un <| a2v (v := (lstV false 1 1 [x_].length)) (h' := upd _ 1 (lstB false 1 ([x_].map eStr))) (n' := 2) rfl rfl (fun h => by cases h) ?_
   obtain ⟨r_, hr1, h⟩ := bnd h
   have hz1 : (zout && [x_].isEmpty) = true → r_ = [] := app_nil (z := zout) (ys := [x_]) hzout hr1
   refine un <| a2v rfl (s_app (xs := out) (ys := [x_]) (e := eStr) (z := zout) (b := 0) rfl rfl hzout rfl rfl (slc_lst rfl (List.length_map _).symm (map_nil_of (fun h => by cases h))) hr1) (fun h => by cases h) <| un1 rfl <| dnil <| Sv.exit ?_
   exact Sv.weak (wcn [2] rfl (.cf rfl rfl (.cf rfl rfl (.cf rfl rfl (.cons rfl (.c (lstC_ren rfl (by decide))) (.cf rfl rfl .nil))))) (.row (by decide) rfl (fr_map fun _ => rfl) .nil)) (url_tidy_j11_ok hz1 h hself hK0 hr)
  ·replace h := ifF hc3 h
   refine Sv.skip <| Sv.seq <| ssr <| un1 rfl <| un1 (v := (B (decide (x_ = [46, 46])))) rfl <| un1 rfl ?_
   refine gjoin 4 (d := 29) (v := (B ((decide (x_ = [46, 46])) && (decide (0 < (out.length : Int)))))) (fun X hX => ?_) ?_
   ·refine split2 (fun hc5 => ?_) (fun hc5 => ?_)
    ·refine gt rfl <| a1 rfl <| gt rfl <| a1 (v := (I (out.length : Int))) (s_lenL rfl (len_nil_of hzout)) <| gt rfl <| a1 (v := (B (decide (0 < (out.length : Int))))) rfl <| un1 (v := (B (decide (0 < (out.length : Int))))) rfl <| dnil ?_
     exact hX _ (.putEq (by rw [hc5]; rfl) (.skip _ _ (.skip _ _ (.skip _ _ (.putEq (by rw [hc5]) (.refl _)) rfl) rfl) rfl))
    ·refine gs rfl rfl <| gs rfl rfl <| gs rfl rfl <| un1 (v := (B false)) rfl <| dnil ?_
     exact hX _ (.putEq (by rw [hc5]; rfl) (.skip _ _ (.skip _ _ (.skip _ _ (.putEq (by rw [hc5]) (.refl _)) rfl) rfl) rfl))
   refine dnil ?_
   refine Sv.cond (b := ((decide (x_ = [46, 46])) && (decide (0 < (out.length : Int))))) rfl (fun hc6 => ?_) (fun hc6 => ?_)
   ·replace h := ifT hc6 h
    refine srg <| un1 rfl <| un1 rfl <| un1 (v := (I (out.length : Int))) (s_lenL rfl (len_nil_of hzout)) <| un1 (v := (I (wi ((out.length : Int) - 1)))) rfl ?_
    obtain ⟨r_2, hx2, h⟩ := bnd h
    refine un1 (v := (cutV zout 0 1 r_2.length out.length)) (s_cutL rfl hzout rfl rfl hx2) <| dweak (show Weak 0 _ ⟨(upd (upd (upd (upd (upd (upd (upd (upd (upd (upd (upd (upd (upd (upd (upd (upd (upd (upd (upd (upd (upd e0 0 (some (.c (.ro false 1 (l_.map eStr))))) 4 (some (I v8))) 5 (some (S x_))) 6 (some (.c (.ro false 1 (l_.map eStr))))) 7 (some (I (l_.length : Int)))) 8 (some (I v8))) 9 (some (B (decide (v8 < (l_.length : Int)))))) 10 (some (I v8))) 11 (some (.c (.rop [.str x_])))) 12 (some (S x_))) 13 (some (S x_))) 14 (some (B (!decide (x_ = [46]))))) 15 (some (B (!decide (x_ = [46]))))) 18 (some (B ((!decide (x_ = [46])) && (!decide (x_ = [46, 46])))))) 23 (some (S x_))) 24 (some (B (decide (x_ = [46, 46]))))) 25 (some (B (decide (x_ = [46, 46]))))) 29 (some (B ((decide (x_ = [46, 46])) && (decide (0 < (out.length : Int))))))) 32 (some (I (out.length : Int)))) 33 (some (I (wi ((out.length : Int) - 1))))) 34 (some (lstV zout 0 1 r_2.length))), (upd e0 0 (lstB zout 1 (r_2.map eStr))), 1⟩ from (wcn [0] rfl (.cons rfl (.c (cut_ren rfl (by decide) (cut_le hx2))) (.cf rfl rfl (.cf rfl rfl (.cf rfl rfl (.cf rfl rfl (.cf rfl rfl (.cf rfl rfl (.cf rfl rfl (.cf rfl rfl (.cf rfl rfl (.cf rfl rfl (.cf rfl rfl (.cf rfl rfl (.cf rfl rfl (.cf rfl rfl (.cf rfl rfl (.cf rfl rfl (.cf rfl rfl (.cf rfl rfl (.cf rfl rfl (.cf rfl rfl .nil))))))))))))))))))))) (.rowP (by decide) rfl (cutP hx2) (fr_map fun _ => rfl) .nil))) <| un1 rfl <| dnil ?_
    exact Sv.weak (wcn [0] rfl (.cf rfl rfl (.cf rfl rfl (.cf rfl rfl (.cf rfl rfl (.cons rfl (.c (lstC_ren rfl (by decide))) (.cf rfl rfl .nil)))))) (.row (by decide) rfl (fr_map fun _ => rfl) .nil)) (url_tidy_j12_ok (cut_nil hzout hx2) h hself hK0 hr)
   ·replace h := ifF hc6 h
    refine Sv.skip ?_
    exact Sv.weak (wcn [0] rfl (.cf rfl rfl (.cf rfl rfl (.cf rfl rfl (.cf rfl rfl (.cons rfl (.c (lstC_ren rfl (by decide))) (.cf rfl rfl .nil)))))) (.row (by decide) rfl (fr_map fun _ => rfl) .nil)) (url_tidy_j12_ok hzout h hself hK0 hr)
 ·replace h := ifF hc1 h
  refine Sv.exit ?_
  exact hK0 out zout hzout h _ (wcn [0] rfl (.cons rfl (.c (lstC_ren rfl (by decide))) .nil) (.row (by decide) rfl (fr_map fun _ => rfl) .nil))
noncomputable def url_tidy_j13 (out4 : TT) : Option TT :=
 some out4
theorem url_tidy_j13_ok {mL : Int} {out4 : TT} {zout4 : Bool} (hzout4 : zout4 = true → out4 = []) {o : TT} (h : url_tidy_j13 out4 = some o) :
  Sv Tryz.prog (GG mL) 0 a24_c3 (Ends a24.results 0 (url_tidy_post o)) ⟨(upd e0 3 (some (lstV zout4 0 1 out4.length))), (upd e0 0 (lstB zout4 1 (out4.map eStr))), 1⟩ := by
 unfold url_tidy_j13 at h
 refine ssr <| un1 rfl <| un1 rfl <| dnil <| Sv.ret ?_
 replace h := Option.some.inj h
 subst h
 exact ⟨_, .refl _, _, rfl, ⟨upd e0 0 (some (lstV zout4 0 1 out4.length)), (upd e0 0 (lstB zout4 1 (out4.map eStr))), 1⟩, (lstV zout4 0 1 out4.length), weak_canon2 [0] [0] (by decide) (by decide) nlz (.cons (by decide) .nil) (.cons rfl (.c (lstC_ren rfl (by decide))) .nil) (.row (by decide) rfl (fr_map fun _ => rfl) .nil), rfl, zout4, hzout4, rfl, rfl, rfl⟩
/-- clerestory/url.tidy -/
noncomputable def url_tidy (l_ : TT) : Option TT :=
 lim fun kk => url_tidy_l0 l_ (fun (out1 : TT) => 
   if decide ((out1.length : Int) = 0) then
    url_tidy_j13 ([[]] : TT)
   else
    url_tidy_j13 out1) kk ([] : TT) 0
theorem url_tidy_ok {mL : Int} {l_ : TT} {r : TT} (h : url_tidy l_ = some r) : ACalls Tryz.prog (GG mL) 24 [(.c (.ro false 1 (l_.map eStr)))] e0 0 (url_tidy_post r) := by
 refine acalls_of_sv hmix c24 (R := url_tidy_post r) ?_
 unfold url_tidy at h
 refine ssr <| un1 rfl <| dnil <| ssr <| un1 rfl <| dnil <| Sv.seq <| ssr <| un1 rfl <| un1 (v := (I (l_.length : Int))) (s_len (e := eStr) (xs := l_) rfl) <| un1 rfl <| dnil <| Sv.block ?_
 obtain ⟨kk, h⟩ := lim_some h
 refine Sv.weak (wcn [1000] rfl (.cf rfl rfl (.cf rfl rfl (.cf rfl rfl (.cons rfl (.c (.same rfl)) (.cf rfl rfl .nil))))) (.non (by decide) .nil)) (url_tidy_l0_ok (fun _ => rfl) h ?_ (fun s hs => hs))
 ·intro out1 zout1 hzout1 h _ hw1
  refine Sv.weak hw1 <| Sv.seq <| ssr <| un1 rfl <| un1 (v := (I (out1.length : Int))) (s_lenL rfl (len_nil_of hzout1)) <| un1 (v := (B (decide ((out1.length : Int) = 0)))) rfl <| dnil ?_
  refine Sv.cond (b := decide ((out1.length : Int) = 0)) rfl (fun hc7 => ?_) (fun hc7 => ?_)
  ·replace h := ifT hc7 h
   refine srg <| un <| a2v (v := (lstV false 1 1 ([[]] : TT).length)) (h' := upd _ 1 (lstB false 1 (([[]] : TT).map eStr))) (n' := 2) rfl rfl (fun h => by cases h) <| un1 rfl <| dnil ?_
   exact Sv.weak (wcn [1] rfl (.cons rfl (.c (lstC_ren rfl (by decide))) .nil) (.row (by decide) rfl (fr_map fun _ => rfl) .nil)) (url_tidy_j13_ok (fun h => by cases h) h)
  ·replace h := ifF hc7 h
   refine Sv.skip ?_
   exact Sv.weak (wcn [0] rfl (.cons rfl (.c (lstC_ren rfl (by decide))) .nil) (.row (by decide) rfl (fr_map fun _ => rfl) .nil)) (url_tidy_j13_ok hzout1 h)
end Go.Proofs.YtjicgjhhiallkaaGreatDoorBv
-- squeezed
