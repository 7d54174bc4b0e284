/- Printed by a program of mine (bgen.py): plain functions, and the walks that show that the code comes to what they answer. -/
import Derived.Test.YtaejmblphhjccaaGreatDoorRows
import Derived.Test.YtaejmblphhjccaaGreatDoorBv40
import Derived.Test.YtaejmblphhjccaaGreatDoorBv35
import Derived.Test.YtaejmblphhjccaaGreatDoorBv38
import Derived.Test.YtaejmblphhjccaaGreatDoorBv30
import Derived.Test.YtaejmblphhjccaaGreatDoorShelf
import Derived.Test.YtaejmblphhjccaaGreatDoorBld
import Derived.Test.YtaejmblphhjccaaGreatDoorBv36
import Derived.Test.YtaejmblphhjccaaGreatDoorBv37
import Derived.Test.YtaejmblphhjccaaGreatDoorBv42
namespace Go.Proofs.YtaejmblphhjccaaGreatDoorBv
open Go
set_option linter.unusedVariables false
set_option linter.unusedSimpArgs false
set_option maxRecDepth 100000
theorem hmix : Tryz.prog.follows .mixedOrders = true := by kernel_rfl
structure TAttr where
 Name : Tx
 Value : Tx
def e_TAttr (x : TAttr) : List Cel := [.str x.Name, .str x.Value]
structure TNode where
 Kind : Int
 Name : Tx
 Attrs : (List TAttr)
 Text : Tx
 Parent : Int
 Kids : (List Int)
def e_TNode (x : TNode) : List Cel := [cI x.Kind, .str x.Name, .ro false 2 (x.Attrs.map e_TAttr), .str x.Text, cI x.Parent, .ro false 1 (x.Kids.map eI)]
structure TDoc where
 Nodes : (List TNode)
 Quirks : Bool
def e_TDoc (x : TDoc) : List Cel := [.ro false 6 (x.Nodes.map e_TNode), cB x.Quirks]
structure TVal where
 Kind : Int
 N : Int
def e_TVal (x : TVal) : List Cel := [cI x.Kind, cI x.N]
structure Tanon where
 f_n : Int
 f_s : Tx
structure Trow where
 f_name : Tx
 f_kinds : Tx
 f_keys : Tx
 f_auto : Tx
 f_above : Bool
def g2_c : List Cel := [240, 240, 240, 240, 240, 240, 240, 240, 240, 240, 240, 240, 240, 240, 240, 240, 240, 240, 240, 240, 240, 240, 240, 240, 240, 240, 240, 240, 240, 240, 240, 240, 240, 240, 240, 240, 240, 240, 240, 240, 240, 240, 240, 240, 240, 240, 240, 240, 240, 240, 240, 240, 240, 240, 240, 240, 240, 240, 240, 240, 240, 240, 240, 240, 240, 240, 240, 240, 240, 240, 240, 240, 240, 240, 240, 240, 240, 240, 240, 240, 240, 240, 240, 240, 240, 240, 240, 240, 240, 240, 240, 240, 240, 240, 240, 240, 240, 240, 240, 240, 240, 240, 240, 240, 240, 240, 240, 240, 240, 240, 240, 240, 240, 240, 240, 240, 240, 240, 240, 240, 240, 240, 240, 240, 240, 240, 240, 240, 241, 241, 241, 241, 241, 241, 241, 241, 241, 241, 241, 241, 241, 241, 241, 241, 241, 241, 241, 241, 241, 241, 241, 241, 241, 241, 241, 241, 241, 241, 241, 241, 241, 241, 241, 241, 241, 241, 241, 241, 241, 241, 241, 241, 241, 241, 241, 241, 241, 241, 241, 241, 241, 241, 241, 241, 241, 241, 241, 241, 241, 241, 241, 241, 241, 241, 2, 2, 2, 2, 2, 2, 2, 2, 2, 2, 2, 2, 2, 2, 2, 2, 2, 2, 2, 2, 2, 2, 2, 2, 2, 2, 2, 2, 2, 2, 19, 3, 3, 3, 3, 3, 3, 3, 3, 3, 3, 3, 3, 35, 3, 3, 52, 4, 4, 4, 68, 241, 241, 241, 241, 241, 241, 241, 241, 241, 241, 241].map fun n => .val (.int .u8 n)
def g3_c : List Cel := [128, 191, 160, 191, 128, 159, 144, 191, 128, 143, 0, 0, 0, 0, 0, 0, 0, 0, 0, 0, 0, 0, 0, 0, 0, 0, 0, 0, 0, 0, 0, 0].map fun n => .val (.int .u8 n)
def g4_c : List Cel := [1, 10, 100, 1000, 10000, 100000, 1000000, 10000000, 100000000, 1000000000, 10000000000, 100000000000, 1000000000000, 10000000000000, 100000000000000, 1000000000000000, 10000000000000000, 100000000000000000, 1000000000000000000, 10000000000000000000].map fun n => .val (.int .u64 n)
def g7_c : List Cel := [.opq]
def g8_c : List Cel := [.opq]
def g9_c : List Cel := [0, 1, 28, 2, 29, 14, 24, 3, 30, 22, 20, 15, 25, 17, 4, 8, 31, 27, 13, 23, 21, 19, 16, 7, 26, 12, 18, 6, 11, 5, 10, 9].map fun n => .val (.int .u8 n)
def g10_c : List Cel := [0, 1, 56, 2, 57, 49, 28, 3, 61, 58, 42, 50, 38, 29, 17, 4, 62, 47, 59, 36, 45, 43, 51, 22, 53, 39, 33, 30, 24, 18, 12, 5, 63, 55, 48, 27, 60, 41, 37, 16, 46, 35, 44, 21, 52, 32, 23, 11, 54, 26, 40, 15, 34, 20, 31, 10, 25, 14, 19, 9, 13, 8, 7, 6].map fun n => .val (.int .u8 n)
/-- what the listed package variables hold -/
def GG (mL : Int) : Glob := fun g => if g = 1 then [.val (.int .i64 mL)] else if g = 2 then g2_c else if g = 3 then g3_c else if g = 4 then g4_c else if g = 7 then g7_c else if g = 8 then g8_c else if g = 9 then g9_c else if g = 10 then g10_c else []
def a47 : AFunc := ⟨3, [(.tmp 6)], (sr [(oP 6 (.mov kF))]
 (sr [(mV 7 0), (mV 8 1), (oP 9 (.bin .geq (.tmp 7) (.tmp 8))), (mV 10 9), ⟨(some 11), (.mov (.tmp 0)), (some (10, true))⟩, ⟨(some 12), (.mov (.tmp 2)), (some (10, true))⟩, ⟨(some 13), (.bin .leq (.tmp 11) (.tmp 12)), (some (10, true))⟩, (oP 14 (.pick (.tmp 10) (.tmp 13) kF)), (mV 6 14)]
 .ret))⟩
theorem c47 : compFunc Tryz.prog 47 = some a47 := by kernel_rfl
def Z76 (r : Bool) : AV → Heap → Nat → Prop := fun v h' n' => v = (B r) ∧ (h' = e0) ∧ n' = 0
/-- clerestory/count.in -/
def Z2 (n_ : Int) (low : Int) (high : Int) : Bool :=
 ((decide (low ≤ n_)) && (decide (n_ ≤ high)))
theorem Z1q {mL : Int} (n_ : Int) (low : Int) (high : Int) : CPure Tryz.prog (GG mL) 47 [(I n_), (I low), (I high)] (B (Z2 n_ low high)) := by
 generalize h : Z2 n_ low high = o
 refine acalls_of_sv hmix c47 (R := Z76 o) ?_
 unfold Z2 at h
 refine ssr <| un1 rfl <| dnil <| ssr <| un1 rfl <| un1 rfl <| un1 (v := (B (decide (low ≤ n_)))) rfl <| un1 rfl ?_
 refine gjoin 4 (d := 14) (v := (B ((decide (low ≤ n_)) && (decide (n_ ≤ high))))) (fun X hX => ?_) ?_
 ·refine split2 (fun hc1 => ?_) (fun hc1 => ?_)
  ·refine gt rfl <| a1 rfl <| gt rfl <| a1 rfl <| gt rfl <| a1 (v := (B (decide (n_ ≤ high)))) rfl <| un1 (v := (B (decide (n_ ≤ high)))) rfl <| dnil ?_
   exact hX _ (.putEq (by rw [hc1]; rfl) (.skp (.skp (.skp (.putEq (by rw [hc1]) (.refl _)) rfl) rfl) rfl))
  ·refine gs rfl rfl <| gs rfl rfl <| gs rfl rfl <| un1 (v := (B false)) rfl <| dnil ?_
   exact hX _ (.putEq (by rw [hc1]; rfl) (.skp (.skp (.skp (.putEq (by rw [hc1]) (.refl _)) rfl) rfl) rfl))
 refine un1 rfl <| dnil <| Sv.ret ?_
 subst h
 exact ⟨_, .refl _, _, rfl, ⟨upd e0 0 (some (B ((decide (low ≤ n_)) && (decide (n_ ≤ high))))), e0, 0⟩, (B ((decide (low ≤ n_)) && (decide (n_ ≤ high)))), weak_canon [] rfl ndl nll nlz (.cf rfl rfl .nil) .nil, rfl, rfl, rfl, rfl⟩
def a80_c0 : ACode := (.seq (sr [(mV 7 2), (mV 8 3), (oP 9 (.bin .lss (.tmp 7) (.tmp 8)))]
 (.cond (.tmp 9) .skip (.exit 0)))
 (.seq (.block 1 (.drawn (.fin [((mV 14 0), (0, 0)), ((mV 15 2), (0, 1)), ((mV 16 0), (0, 2)), ((mV 17 3), (0, 3)), ((mV 18 0), (0, 4)), ((mV 19 3), (0, 5)), ((oP 20 (.iaddr 1 (.tmp 18) (.tmp 19))), (0, 6)), ((oP 21 (.load false 1 (.tmp 20))), (0, 7)), ((mV 22 0), (0, 8)), ((mV 23 2), (0, 9)), ((oP 24 (.iaddr 1 (.tmp 22) (.tmp 23))), (0, 10)), ((oP 25 (.load false 1 (.tmp 24))), (0, 11)), ((oP 26 (.iaddr 1 (.tmp 14) (.tmp 15))), (0, 12)), ((oN (.store 1 (.tmp 26) (.tmp 21))), (2, 13)), ((oP 27 (.iaddr 1 (.tmp 16) (.tmp 17))), (0, 14)), ((oN (.store 1 (.tmp 27) (.tmp 25))), (2, 15))])))
 (.region [(mV 10 2), (oP 11 (.bin .add (.tmp 10) (kI 1))), (mV 12 3), (oP 13 (.bin .sub (.tmp 12) (kI 1))), (mV 2 11), (mV 3 13)])))
def a80 : AFunc := ⟨1, [], (sr [(mV 4 0), (oP 5 (.len (.tmp 4))), (oP 6 (.bin .sub (.tmp 5) (kI 1))), (oP 2 (.mov (kI 0))), (mV 3 6)]
 (.block 0 (.loop a80_c0)))⟩
theorem c80 : compFunc Tryz.prog 80 = some a80 := by kernel_rfl
def Z3r (zs : Bool) (r : (List Int)) : AV → Heap → Nat → Prop := fun v h' n' => v = (.tup []) ∧ (h' = (upd e0 0 (lstB zs 1 (r.map (eK .u8))))) ∧ n' = 1
abbrev Z77 (zs : Bool) (F_ : (List Int) → Option (List Int)) (o : (List Int)) (R_ : St → Prop) : Prop := ∀ (s_2 : (List Int)) (_ : zs = true → s_2 = []), F_ s_2 = some o → ∀ s, Weak 1 s ⟨(upd e0 0 (some (lstV zs 0 1 s_2.length))), (upd e0 0 (lstB zs 1 (s_2.map (eK .u8)))), 1⟩ → R_ s
abbrev Z4h (zs : Bool) (F_ : Nat → (List Int) → Int → Int → Option (List Int)) (o : (List Int)) : Nat → St → Prop := fun k s => ∃ (s_1 : (List Int)), ∃ (i_ : Int), ∃ (j_ : Int), (zs = true → s_1 = []) ∧ F_ k s_1 i_ j_ = some o ∧ s = ⟨(ue [(3, (I j_)), (2, (I i_)), (0, (lstV zs 0 1 s_1.length))]), (upd e0 0 (lstB zs 1 (s_1.map (eK .u8)))), 1⟩
abbrev Z78 (zs : Bool) (F_ : (List Int) → Int → Int → Option (List Int)) (o : (List Int)) (R_ : St → Prop) : Prop := ∀ (s_1 : (List Int)) (i_ : Int) (j_ : Int) (_ : zs = true → s_1 = []), F_ s_1 i_ j_ = some o → ∀ s, Weak 1 s ⟨(ue [(3, (I j_)), (2, (I i_)), (0, (lstV zs 0 1 s_1.length))]), (upd e0 0 (lstB zs 1 (s_1.map (eK .u8)))), 1⟩ → R_ s
noncomputable def Z17 (K0_ : (List Int) → Option (List Int)) : Nat → (List Int) → Int → Int → Option (List Int)
 | 0, _, _, _ => none
 | k + 1, s_1, i_, j_ =>
  if decide (i_ < j_) then
   (at? s_1 j_).bind fun x_ =>
   (at? s_1 i_).bind fun x_1 =>
   (at? s_1 i_).bind fun x_2 =>
   (at? (s_1.set i_.toNat x_) j_).bind fun x_3 =>
   (Z17 K0_ k) ((s_1.set i_.toNat x_).set j_.toNat x_1) (wi (i_ + 1)) (wi (j_ - 1))
  else
   K0_ s_1
theorem Z79 {mL : Int} {Q : AExit → St → Prop} {zs : Bool} {K0_ : (List Int) → Option (List Int)} {k : Nat} {s_1 : (List Int)} {i_ : Int} {j_ : Int} (hzs1 : zs = true → s_1 = []) {o : (List Int)} (h : Z17 K0_ k s_1 i_ j_ = some o)
  (hK0 : Z77 zs K0_ o (Q (.exit 0)))
  (hr : ∀ s, Ends a80.results 1 (Z3r zs o) .ret s → Q .ret s) :
  Sv Tryz.prog (GG mL) 1 (.loop a80_c0) Q ⟨(ue [(3, (I j_)), (2, (I i_)), (0, (lstV zs 0 1 s_1.length))]), (upd e0 0 (lstB zs 1 (s_1.map (eK .u8)))), 1⟩ := by
 refine Sv.loop (I := Z4h zs (Z17 K0_) o) (fun k s hI => ?_) ⟨s_1, i_, j_, hzs1, h, rfl⟩
 clear h
 clear hzs1 j_ i_ s_1
 obtain ⟨s_1, i_, j_, hzs1, h, rfl⟩ := hI
 cases k with
 | zero => cases h
 | succ k =>
 rw [Z17] at h
 have hself : Z78 zs (Z17 K0_ k) o (rnd 1 (Z4h zs (Z17 K0_) o) k Q) := fun s_1 i_ j_ hzs1 h s hw => ⟨_, k, hw, Nat.lt_succ_self k, s_1, i_, j_, hzs1, h, rfl⟩
 refine Sv.seq <| ssr <| un1 rfl <| un1 rfl <| un1 (v := (B (decide (i_ < j_)))) rfl <| dnil ?_
 refine Sv.cnd rfl h (fun h => ?_) fun h => ?_
 ·refine Sv.skip <| Sv.seq <| Sv.block <| Sv.drawn <| un1 rfl <| un1 rfl <| un1 rfl <| un1 rfl <| un1 rfl <| un1 rfl ?_
  obtain ⟨x_, hx1, h⟩ := bnd h
  refine un1 (v := (.c (.ref 0 1 j_.toNat 0))) (s_iaddrL rfl rfl hzs1 hx1) <| un1 (v := (.c (.val (.int .u8 x_)))) (s_loadL (z := zs) (e := (eK .u8)) rfl rfl hzs1 hx1 rfl rfl) <| un1 rfl <| un1 rfl ?_
  obtain ⟨x_1, hx2, h⟩ := bnd h
  refine un1 (v := (.c (.ref 0 1 i_.toNat 0))) (s_iaddrL rfl rfl hzs1 hx2) <| un1 (v := (.c (.val (.int .u8 x_1)))) (s_loadL (z := zs) (e := (eK .u8)) rfl rfl hzs1 hx2 rfl rfl) ?_
  obtain ⟨x_2, hx3, h⟩ := bnd h
  refine un1 (v := (.c (.ref 0 1 i_.toNat 0))) (s_iaddrL rfl rfl hzs1 hx3) <| un <| a2n (h' := upd _ 0 (lstB zs 1 ((s_1.set i_.toNat x_).map (eK .u8)))) (n' := 1) rfl (s_storeL (e := (eK .u8)) (q' := x_) rfl rfl hzs1 hx3 rfl rfl rfl (Nat.le_of_ble_eq_true rfl) rfl) hcs ?_
  try rw [len_set s_1 i_.toNat x_]
  obtain ⟨x_3, hx4, h⟩ := bnd h
  refine un1 (v := (.c (.ref 0 1 j_.toNat 0))) (s_iaddrL rfl rfl (hz_len hzs1 (len_set s_1 i_.toNat x_)) hx4) <| un <| a2n (h' := upd _ 0 (lstB zs 1 (((s_1.set i_.toNat x_).set j_.toNat x_1).map (eK .u8)))) (n' := 1) rfl (s_storeL (e := (eK .u8)) (q' := x_1) rfl rfl (hz_len hzs1 (len_set s_1 i_.toNat x_)) hx4 rfl rfl rfl (Nat.le_of_ble_eq_true rfl) rfl) hcs ?_
  try rw [len_set (s_1.set i_.toNat x_) j_.toNat x_1]
  refine dnil <| srg <| un1 rfl <| un1 (v := (I (wi (i_ + 1)))) rfl <| un1 rfl <| un1 (v := (I (wi (j_ - 1)))) rfl <| un1 rfl <| un1 rfl <| dnil ?_
  exact hself ((s_1.set i_.toNat x_).set j_.toNat x_1) (wi (i_ + 1)) (wi (j_ - 1)) (hz_len (hz_len hzs1 (len_set s_1 i_.toNat x_)) (len_set (s_1.set i_.toNat x_) j_.toNat x_1)) h _ (weak_canon [0] rfl (by decide) (by decide) (by decide) (.cf rfl rfl (.cf rfl rfl (.cons rfl (.c (lsr rfl rfl)) .nil))) (.row (by decide) rfl (fr_map fun _ => rfl) .nil))
 ·refine Sv.exit ?_
  exact hK0 s_1 hzs1 h _ (weak_canon [0] rfl (by decide) (by decide) (by decide) (.cons rfl (.c (lsr rfl rfl)) .nil) (.row (by decide) rfl (fr_map fun _ => rfl) .nil))
/-- slices.Reverse(()byte,byte) -/
noncomputable def Z3s (s_ : (List Int)) : Option (List Int) :=
 lim fun kk => Z17 (fun (s_2 : (List Int)) => 
   some s_2) kk s_ 0 (wi ((s_.length : Int) - 1))
theorem Z7a {mL : Int} {s_ : (List Int)} {zs : Bool} (hzs : zs = true → s_ = []) {r : (List Int)} (h : Z3s s_ = some r) : ACalls Tryz.prog (GG mL) 80 [(lstV zs 0 1 s_.length)] (upd e0 0 (lstB zs 1 (s_.map (eK .u8)))) 1 (Z3r zs r) := by
 refine acalls_of_sv hmix c80 (R := Z3r zs r) ?_
 unfold Z3s at h
 refine ssr <| un1 rfl <| un1 (v := (I (s_.length : Int))) (s_lenL rfl (len_nil_of hzs)) <| un1 (v := (I (wi ((s_.length : Int) - 1)))) rfl <| un1 rfl <| un1 rfl <| dnil <| Sv.block ?_
 obtain ⟨kk, h⟩ := lim_some h
 refine Sv.weak (weak_canon [0] rfl (by decide) (by decide) (by decide) (.cf rfl rfl (.cf rfl rfl (.cons rfl (.c (lsr rfl rfl)) .nil))) (.row (by decide) rfl (fr_map fun _ => rfl) .nil)) (Z79 hzs h ?_ (fun s hs => hs))
 ·intro s_2 hzs2 h _ hw1
  replace h := Option.some.inj h
  subst h
  exact ⟨_, hw1, _, rfl, ⟨upd e0 0 (some (.tup [])), (upd e0 0 (lstB zs 1 (s_2.map (eK .u8)))), 1⟩, (.tup []), weak_canon2 [0] [0] (by decide) (by decide) (by decide) (.cons (by decide) .nil) (.cons rfl (avAs_tup .nil) .nil) (.row (by decide) rfl (fr_map fun _ => rfl) .nil), rfl, rfl, rfl, rfl⟩
def a50_c0 : ACode := (.seq (sr [(mV 4 0), (oP 5 (.bin .gtr (.tmp 4) (kI 0)))]
 (.cond (.tmp 5) .skip (.exit 0)))
 (.seq (.block 1 (.region [(mV 9 3), (mV 10 0), (oP 11 (.bin .sub (.tmp 10) (kI 1))), (oP 12 (.bin .rem (.tmp 11) (kI 26))), (oP 13 (.bin .add (kI 97) (.tmp 12))), (oP 14 (.conv .u8 (.tmp 13))), (oP 15 (.bslice 1 [(.val (.int .u8 0))] 1 [(0, (.tmp 14))])), (oP 16 (.app 1 1 (.tmp 9) (.tmp 15))), (mV 3 16)]))
 (.region [(mV 6 0), (oP 7 (.bin .sub (.tmp 6) (kI 1))), (oP 8 (.bin .quo (.tmp 7) (kI 26))), (mV 0 8)])))
def a50 : AFunc := ⟨1, [(.tmp 2)], (sr [(oP 2 (.mov (.const (.c (.str [])))))]
 (sr [(oP 3 (.mov (.const (.c (.ro true 1 [])))))]
 (.seq (.block 0 (.loop a50_c0))
 (sr [(mV 17 3), (oP 18 (.call 80 [(.tmp 17)]))]
 (sr [(mV 19 3), (oP 20 (.ofBytes (.tmp 19))), (mV 2 20)]
 .ret)))))⟩
theorem c50 : compFunc Tryz.prog 50 = some a50 := by kernel_rfl
def Z4i (r : Tx) : AV → Heap → Nat → Prop := fun v h' n' => v = (S r) ∧ (h' = e0) ∧ n' = 0
abbrev Z7b (F_ : (List Int) → Option Tx) (o : Tx) (R_ : St → Prop) : Prop := ∀ (out1 : (List Int)) (zout1 : Bool) (_ : zout1 = true → out1 = []), F_ out1 = some o → ∀ s, Weak 0 s ⟨(upd e0 3 (some (lstV zout1 0 1 out1.length))), (upd e0 0 (lstB zout1 1 (out1.map (eK .u8)))), 1⟩ → R_ s
abbrev Z4j (F_ : Nat → Int → (List Int) → Option Tx) (o : Tx) : Nat → St → Prop := fun k s => ∃ (n_1 : Int), ∃ (out : (List Int)), ∃ (zout : Bool), (zout = true → out = []) ∧ F_ k n_1 out = some o ∧ s = ⟨(ue [(3, (lstV zout 0 1 out.length)), (0, (I n_1))]), (upd e0 0 (lstB zout 1 (out.map (eK .u8)))), 1⟩
abbrev Z7c (F_ : Int → (List Int) → Option Tx) (o : Tx) (R_ : St → Prop) : Prop := ∀ (n_1 : Int) (out : (List Int)) (zout : Bool) (_ : zout = true → out = []), F_ n_1 out = some o → ∀ s, Weak 0 s ⟨(ue [(3, (lstV zout 0 1 out.length)), (0, (I n_1))]), (upd e0 0 (lstB zout 1 (out.map (eK .u8)))), 1⟩ → R_ s
noncomputable def Z18 (K0_ : (List Int) → Option Tx) : Nat → Int → (List Int) → Option Tx
 | 0, _, _ => none
 | k + 1, n_1, out =>
  if decide (0 < n_1) then
   (app? 1 out [(wr .u8 (wi (97 + ((wi (n_1 - 1)).tmod 26))))]).bind fun r_ =>
   (Z18 K0_ k) (wi ((wi (n_1 - 1)).tdiv 26)) r_
  else
   K0_ out
theorem Z7d {mL : Int} {Q : AExit → St → Prop} {K0_ : (List Int) → Option Tx} {k : Nat} {n_1 : Int} {out : (List Int)} {zout : Bool} (hzout : zout = true → out = []) {o : Tx} (h : Z18 K0_ k n_1 out = some o)
  (hK0 : Z7b K0_ o (Q (.exit 0)))
  (hr : ∀ s, Ends a50.results 0 (Z4i o) .ret s → Q .ret s) :
  Sv Tryz.prog (GG mL) 0 (.loop a50_c0) Q ⟨(ue [(3, (lstV zout 0 1 out.length)), (0, (I n_1))]), (upd e0 0 (lstB zout 1 (out.map (eK .u8)))), 1⟩ := by
 refine Sv.loop (I := Z4j (Z18 K0_) o) (fun k s hI => ?_) ⟨n_1, out, zout, hzout, h, rfl⟩
 clear h
 clear hzout zout out n_1
 obtain ⟨n_1, out, zout, hzout, h, rfl⟩ := hI
 cases k with
 | zero => cases h
 | succ k =>
 rw [Z18] at h
 have hself : Z7c (Z18 K0_ k) o (rnd 0 (Z4j (Z18 K0_) o) k Q) := fun n_1 out zout hzout h s hw => ⟨_, k, hw, Nat.lt_succ_self k, n_1, out, zout, hzout, h, rfl⟩
 refine Sv.seq <| ssr <| un1 rfl <| un1 (v := (B (decide (0 < n_1)))) rfl <| dnil ?_
 refine Sv.cnd rfl h (fun h => ?_) fun h => ?_
 ·refine Sv.skip <| Sv.seq <| Sv.block <| srg <| un1 rfl <| un1 rfl <| un1 (v := (I (wi (n_1 - 1)))) rfl <| un1 (v := (I ((wi (n_1 - 1)).tmod 26))) rfl <| un1 (v := (I (wi (97 + ((wi (n_1 - 1)).tmod 26))))) rfl <| un1 (v := (.c (.val (.int .u8 (wr .u8 (wi (97 + ((wi (n_1 - 1)).tmod 26)))))))) rfl <| un <| a2v (v := (lstV false 1 1 [(wr .u8 (wi (97 + ((wi (n_1 - 1)).tmod 26))))].length)) (h' := upd _ 1 (lstB false 1 ([(wr .u8 (wi (97 + ((wi (n_1 - 1)).tmod 26))))].map (eK .u8)))) (n' := 2) rfl rfl hcs ?_
  obtain ⟨r_, hr1, h⟩ := bnd h
  have hz1 : (zout && [(wr .u8 (wi (97 + ((wi (n_1 - 1)).tmod 26))))].isEmpty) = true → r_ = [] := app_nil (z := zout) (ys := [(wr .u8 (wi (97 + ((wi (n_1 - 1)).tmod 26))))]) hzout hr1
  refine un <| a2v rfl (s_app (xs := out) (ys := [(wr .u8 (wi (97 + ((wi (n_1 - 1)).tmod 26))))]) (e := (eK .u8)) (z := zout) (b := 0) rfl rfl hzout rfl rfl (slc_lst rfl (List.length_map _).symm (map_nil_of hcs)) hr1) hcs <| un1 rfl <| dnil <| srg <| un1 rfl <| un1 (v := (I (wi (n_1 - 1)))) rfl <| un1 (v := (I (wi ((wi (n_1 - 1)).tdiv 26)))) rfl <| un1 rfl <| dnil ?_
  exact hself (wi ((wi (n_1 - 1)).tdiv 26)) r_ (zout && [(wr .u8 (wi (97 + ((wi (n_1 - 1)).tmod 26))))].isEmpty) hz1 h _ (wcn [2] rfl (.cons rfl (.c (lsr rfl rfl)) (.cf rfl rfl .nil)) (.row (by decide) rfl (fr_map fun _ => rfl) .nil))
 ·refine Sv.exit ?_
  exact hK0 out zout hzout h _ (wcn [0] rfl (.cons rfl (.c (lsr rfl rfl)) .nil) (.row (by decide) rfl (fr_map fun _ => rfl) .nil))
/-- clerestory/count.letters -/
noncomputable def Z2x (n_ : Int) : Option Tx :=
 lim fun kk => Z18 (fun (out1 : (List Int)) => 
   (Z3s out1).bind fun r_1 =>
   guardLen out1 r_1 <|
   some (byts r_1)) kk n_ ([] : List Int)
theorem Z4k {mL : Int} {n_ : Int} {r : Tx} (h : Z2x n_ = some r) : CPure Tryz.prog (GG mL) 50 [(I n_)] (S r) := by
 refine acalls_of_sv hmix c50 (R := Z4i r) ?_
 unfold Z2x at h
 refine ssr <| un1 rfl <| dnil <| ssr <| un1 rfl <| dnil <| Sv.seq <| Sv.block ?_
 obtain ⟨kk, h⟩ := lim_some h
 refine Sv.weak (wcn [1000] rfl (.cons rfl (.c (.same rfl)) (.cf rfl rfl .nil)) (.non (by decide) .nil)) (Z7d (fun _ => rfl) h ?_ (fun s hs => hs))
 ·intro out1 zout1 hzout1 h _ hw1
  refine Sv.weak hw1 <| ssr <| un1 rfl ?_
  obtain ⟨r_1, hr2, h⟩ := bnd h
  refine un <| ac_gen (bs := [0]) («as» := [(lstV zout1 0 1 out1.length)]) (h2 := _) (h1 := (upd e0 0 (lstB zout1 1 (out1.map (eK .u8))))) (Z7a hzout1 hr2) rfl (.cons (.c (lsr rfl rfl)) .nil) (hsub_refl _) (.cons rfl (.nil _)) hcs (by decide) (by decide) (.cons (.c (lsr rfl rfl)) .nil) (.row (by decide) rfl (fr_map fun _ => rfl) .nil) ?_
  rintro _ _ _ hn ⟨rfl, rfl, rfl⟩
  refine ⟨.inl rfl, (upd (rem [0] _) 0 (lstB zout1 1 (r_1.map (eK .u8)))), fun hbd => (m3_cons (m3_row rfl (fr_map fun _ => rfl)) (m3_rem (in_cons (by decide) (in_nil _)) (.cons (by decide) .nil) hbd)), (.tup []), 1, rfl, rfl, ?_⟩
  obtain ⟨hlen, h⟩ := guard_some h
  try rw [hlen]
  refine dnil <| ssr <| un1 rfl <| un1 (v := (S (byts r_1))) (s_ofBytes (xs := r_1) rfl (slc_lst rfl (List.length_map _).symm (map_nil_of (hz_len hzout1 hlen)))) <| un1 rfl <| dnil <| Sv.ret ?_
  exact rt0 h rfl rfl ⟨rfl, rfl, rfl⟩
noncomputable abbrev Z4l (l : List UInt8) (x0 : Tx) : Option Tx := bWriteString? l x0
/-- (*strings.Builder).WriteString, by my own walk of it -/
theorem Z7e {mL : Int} {z : Bool} {l : List UInt8} {x0 : Tx} {r : List UInt8} (hz : z = true → l = []) (h : Z4l l x0 = some r) : ACalls Tryz.prog (GG mL) 82 [.c (.ref 0 2 0 0), (S x0)] (bldH 99 5 z l) 2 (bPost 99 5 (.tup [.c (.val (.int .i64 (x0.length : Int))), .c (.val .nilIface)]) r) := bWriteString_ok blays b166 hz h
/-- (*strings.Builder).String, by my own walk of it -/
theorem Z7f {mL : Int} {z : Bool} {l : List UInt8} (hz : z = true → l = []) : ACalls Tryz.prog (GG mL) 65 [.c (.ref 0 2 0 0)] (bldH 99 5 z l) 2 (fun v h' n' => v = .c (.str l) ∧ h' = e0 ∧ n' = 2) := bString_ok bL bX hz
def a52_c0 : ACode := (.seq (sr [(mV 23 0), (oP 24 (.faddr 0 (.tmp 5))), (oP 25 (.load false 1 (.tmp 24))), (oP 26 (.bin .geq (.tmp 23) (.tmp 25)))]
 (.cond (.tmp 26) .skip (.exit 2)))
 (.seq (.block 3 (.region [(oP 31 (.faddr 1 (.tmp 5))), (oP 32 (.load false 1 (.tmp 31))), (oP 33 (.call 82 [(.tmp 3), (.tmp 32)]))]))
 (.region [(mV 27 0), (oP 28 (.faddr 0 (.tmp 5))), (oP 29 (.load false 1 (.tmp 28))), (oP 30 (.bin .sub (.tmp 27) (.tmp 29))), (mV 0 30)])))
def a52_c1 : ACode := (sr [(oP 21 (.bin .lss (.tmp 20) (kI 13)))]
 (.seq (.cond (.tmp 21) .skip (.exit 0))
 (.seq (.block 1 (sr [(oP 22 (.idxA true 13 2 (.tmp 19) (.tmp 20))), (oP 5 (.box (.const (.agg [(.val (.int .i64 0)), (.str [])])))), (oN (.store 2 (.tmp 5) (.tmp 22)))]
 (.block 2 (.loop a52_c0))))
 (.region [(oP 34 (.bin .add (.tmp 20) (kI 1))), (mV 20 34)]))))
def a52 : AFunc := ⟨1, [(.tmp 2)], (sr [(oP 2 (.mov (.const (.c (.str [])))))]
 (sr [(oP 3 (.boxB 99))]
 (.seq (sr [(oP 6 (.build [(.val (.int .i64 0)), (.str [])] [(0, (1, (kI 1000))), (1, (1, (.const (.c (.str [109])))))])), (oP 7 (.build [(.val (.int .i64 0)), (.str [])] [(0, (1, (kI 900))), (1, (1, (.const (.c (.str [99, 109])))))])), (oP 8 (.build [(.val (.int .i64 0)), (.str [])] [(0, (1, (kI 500))), (1, (1, (.const (.c (.str [100])))))])), (oP 9 (.build [(.val (.int .i64 0)), (.str [])] [(0, (1, (kI 400))), (1, (1, (.const (.c (.str [99, 100])))))])), (oP 10 (.build [(.val (.int .i64 0)), (.str [])] [(0, (1, (kI 100))), (1, (1, (.const (.c (.str [99])))))])), (oP 11 (.build [(.val (.int .i64 0)), (.str [])] [(0, (1, (kI 90))), (1, (1, (.const (.c (.str [120, 99])))))])), (oP 12 (.build [(.val (.int .i64 0)), (.str [])] [(0, (1, (kI 50))), (1, (1, (.const (.c (.str [108])))))])), (oP 13 (.build [(.val (.int .i64 0)), (.str [])] [(0, (1, (kI 40))), (1, (1, (.const (.c (.str [120, 108])))))])), (oP 14 (.build [(.val (.int .i64 0)), (.str [])] [(0, (1, (kI 10))), (1, (1, (.const (.c (.str [120])))))])), (oP 15 (.build [(.val (.int .i64 0)), (.str [])] [(0, (1, (kI 9))), (1, (1, (.const (.c (.str [105, 120])))))])), (oP 16 (.build [(.val (.int .i64 0)), (.str [])] [(0, (1, (kI 5))), (1, (1, (.const (.c (.str [118])))))])), (oP 17 (.build [(.val (.int .i64 0)), (.str [])] [(0, (1, (kI 4))), (1, (1, (.const (.c (.str [105, 118])))))])), (oP 18 (.build [(.val (.int .i64 0)), (.str [])] [(0, (1, (kI 1))), (1, (1, (.const (.c (.str [105])))))])), (oP 19 (.build [(.val (.int .i64 0)), (.str []), (.val (.int .i64 0)), (.str []), (.val (.int .i64 0)), (.str []), (.val (.int .i64 0)), (.str []), (.val (.int .i64 0)), (.str []), (.val (.int .i64 0)), (.str []), (.val (.int .i64 0)), (.str []), (.val (.int .i64 0)), (.str []), (.val (.int .i64 0)), (.str []), (.val (.int .i64 0)), (.str []), (.val (.int .i64 0)), (.str []), (.val (.int .i64 0)), (.str []), (.val (.int .i64 0)), (.str [])] [(0, (2, (.tmp 6))), (2, (2, (.tmp 7))), (4, (2, (.tmp 8))), (6, (2, (.tmp 9))), (8, (2, (.tmp 10))), (10, (2, (.tmp 11))), (12, (2, (.tmp 12))), (14, (2, (.tmp 13))), (16, (2, (.tmp 14))), (18, (2, (.tmp 15))), (20, (2, (.tmp 16))), (22, (2, (.tmp 17))), (24, (2, (.tmp 18)))])), (oP 20 (.mov (kI 0)))]
 (.block 0 (.loop a52_c1)))
 (sr [(oP 35 (.call 65 [(.tmp 3)])), (mV 2 35)]
 .ret))))⟩
theorem c52 : compFunc Tryz.prog 52 = some a52 := by kernel_rfl
def Z3t (r : Tx) : AV → Heap → Nat → Prop := fun v h' n' => v = (S r) ∧ (h' = e0) ∧ n' = 0
def Z7g : AV := (.agg [cI 1000, .str [109], cI 900, .str [99, 109], cI 500, .str [100], cI 400, .str [99, 100], cI 100, .str [99], cI 90, .str [120, 99], cI 50, .str [108], cI 40, .str [120, 108], cI 10, .str [120], cI 9, .str [105, 120], cI 5, .str [118], cI 4, .str [105, 118], cI 1, .str [105]])
def Z8 : List Tanon := [(⟨1000, [109]⟩ : Tanon), (⟨900, [99, 109]⟩ : Tanon), (⟨500, [100]⟩ : Tanon), (⟨400, [99, 100]⟩ : Tanon), (⟨100, [99]⟩ : Tanon), (⟨90, [120, 99]⟩ : Tanon), (⟨50, [108]⟩ : Tanon), (⟨40, [120, 108]⟩ : Tanon), (⟨10, [120]⟩ : Tanon), (⟨9, [105, 120]⟩ : Tanon), (⟨5, [118]⟩ : Tanon), (⟨4, [105, 118]⟩ : Tanon), (⟨1, [105]⟩ : Tanon)]
abbrev Z7h (v20 : Int) (F_ : Int → Tx → Option Tx) (o : Tx) (R_ : St → Prop) : Prop := ∀ (n_3 : Int) (b_3 : Tx) (zb_3 : Bool) (_ : zb_3 = true → b_3 = []), F_ n_3 b_3 = some o → ∀ s, Weak 0 s ⟨(ue [(20, (I v20)), (19, (.agg [cI 1000, .str [109], cI 900, .str [99, 109], cI 500, .str [100], cI 400, .str [99, 100], cI 100, .str [99], cI 90, .str [120, 99], cI 50, .str [108], cI 40, .str [120, 108], cI 10, .str [120], cI 9, .str [105, 120], cI 5, .str [118], cI 4, .str [105, 118], cI 1, .str [105]])), (3, (.c (.ref 0 2 0 0))), (0, (I n_3))]), (upd (upd e0 0 (some (.bld 99 zb_3 1 b_3.length))) 1 (bufB zb_3 5 b_3)), 2⟩ → R_ s
abbrev Z4m (v20 : Int) (x_ : Tanon) (F_ : Nat → Int → Tx → Option Tx) (o : Tx) : Nat → St → Prop := fun k s => ∃ (n_2 : Int), ∃ (b_2 : Tx), ∃ (zb_2 : Bool), (zb_2 = true → b_2 = []) ∧ F_ k n_2 b_2 = some o ∧ s = ⟨(ue [(20, (I v20)), (19, (.agg [cI 1000, .str [109], cI 900, .str [99, 109], cI 500, .str [100], cI 400, .str [99, 100], cI 100, .str [99], cI 90, .str [120, 99], cI 50, .str [108], cI 40, .str [120, 108], cI 10, .str [120], cI 9, .str [105, 120], cI 5, .str [118], cI 4, .str [105, 118], cI 1, .str [105]])), (5, (.c (.ref 2 2 0 0))), (3, (.c (.ref 0 2 0 0))), (0, (I n_2))]), (upd (upd (upd e0 0 (some (.bld 99 zb_2 1 b_2.length))) 1 (bufB zb_2 5 b_2)) 2 (some (.cells 2 [[cI x_.f_n, .str x_.f_s]]))), 3⟩
abbrev Z7i (v20 : Int) (x_ : Tanon) (F_ : Int → Tx → Option Tx) (o : Tx) (R_ : St → Prop) : Prop := ∀ (n_2 : Int) (b_2 : Tx) (zb_2 : Bool) (_ : zb_2 = true → b_2 = []), F_ n_2 b_2 = some o → ∀ s, Weak 0 s ⟨(ue [(20, (I v20)), (19, (.agg [cI 1000, .str [109], cI 900, .str [99, 109], cI 500, .str [100], cI 400, .str [99, 100], cI 100, .str [99], cI 90, .str [120, 99], cI 50, .str [108], cI 40, .str [120, 108], cI 10, .str [120], cI 9, .str [105, 120], cI 5, .str [118], cI 4, .str [105, 118], cI 1, .str [105]])), (5, (.c (.ref 2 2 0 0))), (3, (.c (.ref 0 2 0 0))), (0, (I n_2))]), (upd (upd (upd e0 0 (some (.bld 99 zb_2 1 b_2.length))) 1 (bufB zb_2 5 b_2)) 2 (some (.cells 2 [[cI x_.f_n, .str x_.f_s]]))), 3⟩ → R_ s
noncomputable def Zp (x_ : Tanon) (v20 : Int) (K2_ : Int → Tx → Option Tx) : Nat → Int → Tx → Option Tx
 | 0, _, _ => none
 | k + 1, n_2, b_2 =>
  if decide (x_.f_n ≤ n_2) then
   (Z4l b_2 x_.f_s).bind fun r_ =>
   (Zp x_ v20 K2_ k) (wi (n_2 - x_.f_n)) r_
  else
   K2_ n_2 b_2
theorem Z7j {mL : Int} {Q : AExit → St → Prop} {x_ : Tanon} {v20 : Int} {K2_ : Int → Tx → Option Tx} {k : Nat} {n_2 : Int} {b_2 : Tx} {zb_2 : Bool} (hzb_2 : zb_2 = true → b_2 = []) {o : Tx} (h : Zp x_ v20 K2_ k n_2 b_2 = some o)
  (hK2 : Z7h v20 K2_ o (Q (.exit 2)))
  (hr : ∀ s, Ends a52.results 0 (Z3t o) .ret s → Q .ret s) :
  Sv Tryz.prog (GG mL) 0 (.loop a52_c0) Q ⟨(ue [(20, (I v20)), (19, (.agg [cI 1000, .str [109], cI 900, .str [99, 109], cI 500, .str [100], cI 400, .str [99, 100], cI 100, .str [99], cI 90, .str [120, 99], cI 50, .str [108], cI 40, .str [120, 108], cI 10, .str [120], cI 9, .str [105, 120], cI 5, .str [118], cI 4, .str [105, 118], cI 1, .str [105]])), (5, (.c (.ref 2 2 0 0))), (3, (.c (.ref 0 2 0 0))), (0, (I n_2))]), (upd (upd (upd e0 0 (some (.bld 99 zb_2 1 b_2.length))) 1 (bufB zb_2 5 b_2)) 2 (some (.cells 2 [[cI x_.f_n, .str x_.f_s]]))), 3⟩ := by
 refine Sv.loop (I := Z4m v20 x_ (Zp x_ v20 K2_) o) (fun k s hI => ?_) ⟨n_2, b_2, zb_2, hzb_2, h, rfl⟩
 clear h
 clear hzb_2 zb_2 b_2 n_2
 obtain ⟨n_2, b_2, zb_2, hzb_2, h, rfl⟩ := hI
 cases k with
 | zero => cases h
 | succ k =>
 rw [Zp] at h
 have hself : Z7i v20 x_ (Zp x_ v20 K2_ k) o (rnd 0 (Z4m v20 x_ (Zp x_ v20 K2_) o) k Q) := fun n_2 b_2 zb_2 hzb_2 h s hw => ⟨_, k, hw, Nat.lt_succ_self k, n_2, b_2, zb_2, hzb_2, h, rfl⟩
 refine Sv.seq <| ssr <| un1 rfl <| un1 (v := (.c (.ref 2 2 0 0))) rfl <| un1 (v := (I x_.f_n)) rfl <| un1 (v := (B (decide (x_.f_n ≤ n_2)))) rfl <| dnil ?_
 refine Sv.cnd rfl h (fun h => ?_) fun h => ?_
 ·refine Sv.skip <| Sv.seq <| Sv.block <| srg <| un1 (v := (.c (.ref 2 2 0 1))) rfl <| un1 (v := (S x_.f_s)) rfl ?_
  obtain ⟨r_, hr1, h⟩ := bnd h
  refine un <| ac_gen (bs := [0, 1]) («as» := [(.c (.ref 0 2 0 0)), (S x_.f_s)]) (h2 := _) (h1 := (upd (upd e0 0 (some (.bld 99 zb_2 1 b_2.length))) 1 (bufB zb_2 5 b_2))) (Z7e (z := zb_2) (l := b_2) hzb_2 hr1) rfl (.cons (.c (.ref rfl (by decide))) (.cons (avAs_free rfl) .nil)) (hsub_refl _) (.cons rfl (.cons rfl (.nil _))) hcs (by decide) (by decide) (.cons (.c (.ref rfl (by decide))) (.cons (avAs_free rfl) .nil)) (.buf (by decide) rfl (.box (by decide) rfl (.bld rfl (by decide)) .nil)) ?_
  rintro _ _ _ hn ⟨z_, hz_, rfl, rfl, rfl⟩
  refine ⟨.inl rfl, (upd (upd (rem [0, 1] _) 0 (some (.bld 99 z_ 3 r_.length))) 3 (bufB z_ 5 r_)), fun hbd => (m3_cons (m3_buf rfl) (m3_cons (m3_box rfl rfl) (m3_rem (in_cons (by decide) (in_cons (by decide) (in_nil _))) (.cons (by decide) (.cons (by decide) .nil)) hbd))), (.tup [(I (x_.f_s.length : Int)), (.c (.val .nilIface))]), 4, (by cases z_ <;> rfl), rfl, ?_⟩
  refine dnil <| srg <| un1 rfl <| un1 (v := (.c (.ref 2 2 0 0))) rfl <| un1 (v := (I x_.f_n)) rfl <| un1 (v := (I (wi (n_2 - x_.f_n)))) rfl <| un1 rfl <| dnil ?_
  exact hself (wi (n_2 - x_.f_n)) r_ z_ hz_ h _ (wcn [0, 3, 2] rfl (.cf rfl rfl (.cf rfl rfl (.cr rfl rfl rfl (.cr rfl rfl rfl (.cf rfl rfl .nil))))) (.box (by decide) rfl (blkAs_cells (.sm rfl (.sm rfl .nil))) (.buf (by decide) rfl (.box (by decide) rfl (.bld rfl (by decide)) .nil))))
 ·refine Sv.exit ?_
  exact hK2 n_2 b_2 zb_2 hzb_2 h _ (wcn [0, 1] rfl (.cf rfl rfl (.cf rfl rfl (.cr rfl rfl rfl (.cf rfl rfl .nil)))) (.buf (by decide) rfl (.box (by decide) rfl (.bld rfl (by decide)) .nil)))
abbrev Z7k (F_ : Tx → Option Tx) (o : Tx) (R_ : St → Prop) : Prop := ∀ (b_1 : Tx) (zb_1 : Bool) (_ : zb_1 = true → b_1 = []), F_ b_1 = some o → ∀ s, Weak 0 s ⟨(upd e0 3 (some (.c (.ref 0 2 0 0)))), (upd (upd e0 0 (some (.bld 99 zb_1 1 b_1.length))) 1 (bufB zb_1 5 b_1)), 2⟩ → R_ s
abbrev Z4n (F_ : Nat → Int → Tx → Int → Option Tx) (o : Tx) : Nat → St → Prop := fun k s => ∃ (n_1 : Int), ∃ (b_ : Tx), ∃ (v20 : Int), ∃ (zb : Bool), (zb = true → b_ = []) ∧ F_ k n_1 b_ v20 = some o ∧ s = ⟨(ue [(20, (I v20)), (19, (.agg [cI 1000, .str [109], cI 900, .str [99, 109], cI 500, .str [100], cI 400, .str [99, 100], cI 100, .str [99], cI 90, .str [120, 99], cI 50, .str [108], cI 40, .str [120, 108], cI 10, .str [120], cI 9, .str [105, 120], cI 5, .str [118], cI 4, .str [105, 118], cI 1, .str [105]])), (3, (.c (.ref 0 2 0 0))), (0, (I n_1))]), (upd (upd e0 0 (some (.bld 99 zb 1 b_.length))) 1 (bufB zb 5 b_)), 2⟩
abbrev Z7l (F_ : Int → Tx → Int → Option Tx) (o : Tx) (R_ : St → Prop) : Prop := ∀ (n_1 : Int) (b_ : Tx) (v20 : Int) (zb : Bool) (_ : zb = true → b_ = []), F_ n_1 b_ v20 = some o → ∀ s, Weak 0 s ⟨(ue [(20, (I v20)), (19, (.agg [cI 1000, .str [109], cI 900, .str [99, 109], cI 500, .str [100], cI 400, .str [99, 100], cI 100, .str [99], cI 90, .str [120, 99], cI 50, .str [108], cI 40, .str [120, 108], cI 10, .str [120], cI 9, .str [105, 120], cI 5, .str [118], cI 4, .str [105, 118], cI 1, .str [105]])), (3, (.c (.ref 0 2 0 0))), (0, (I n_1))]), (upd (upd e0 0 (some (.bld 99 zb 1 b_.length))) 1 (bufB zb 5 b_)), 2⟩ → R_ s
noncomputable def Zq (K0_ : Tx → Option Tx) : Nat → Int → Tx → Int → Option Tx
 | 0, _, _, _ => none
 | k + 1, n_1, b_, v20 =>
  if decide (v20 < 13) then
   (at? Z8 v20).bind fun x_ =>
   lim fun kk => Zp x_ v20 (fun (n_3 : Int) (b_3 : Tx) => 
     (Zq K0_ k) n_3 b_3 (wi (v20 + 1))) kk n_1 b_
  else
   K0_ b_
theorem Z7m {mL : Int} {Q : AExit → St → Prop} {K0_ : Tx → Option Tx} {k : Nat} {n_1 : Int} {b_ : Tx} {v20 : Int} {zb : Bool} (hzb : zb = true → b_ = []) {o : Tx} (h : Zq K0_ k n_1 b_ v20 = some o)
  (hK0 : Z7k K0_ o (Q (.exit 0)))
  (hr : ∀ s, Ends a52.results 0 (Z3t o) .ret s → Q .ret s) :
  Sv Tryz.prog (GG mL) 0 (.loop a52_c1) Q ⟨(ue [(20, (I v20)), (19, (.agg [cI 1000, .str [109], cI 900, .str [99, 109], cI 500, .str [100], cI 400, .str [99, 100], cI 100, .str [99], cI 90, .str [120, 99], cI 50, .str [108], cI 40, .str [120, 108], cI 10, .str [120], cI 9, .str [105, 120], cI 5, .str [118], cI 4, .str [105, 118], cI 1, .str [105]])), (3, (.c (.ref 0 2 0 0))), (0, (I n_1))]), (upd (upd e0 0 (some (.bld 99 zb 1 b_.length))) 1 (bufB zb 5 b_)), 2⟩ := by
 refine Sv.loop (I := Z4n (Zq K0_) o) (fun k s hI => ?_) ⟨n_1, b_, v20, zb, hzb, h, rfl⟩
 clear h
 clear hzb zb v20 b_ n_1
 obtain ⟨n_1, b_, v20, zb, hzb, h, rfl⟩ := hI
 cases k with
 | zero => cases h
 | succ k =>
 rw [Zq] at h
 have hself : Z7l (Zq K0_ k) o (rnd 0 (Z4n (Zq K0_) o) k Q) := fun n_1 b_ v20 zb hzb h s hw => ⟨_, k, hw, Nat.lt_succ_self k, n_1, b_, v20, zb, hzb, h, rfl⟩
 refine ssr <| un1 (v := (B (decide (v20 < 13)))) rfl <| dnil <| Sv.seq ?_
 refine Sv.cnd rfl h (fun h => ?_) fun h => ?_
 ·refine Sv.skip <| Sv.seq <| Sv.block <| ssr ?_
  obtain ⟨x_, hx1, h⟩ := bnd h
  refine un1 (v := (.agg [cI x_.f_n, .str x_.f_s])) (s_idxA (L := Z8) (v := fun q => (.agg [cI q.f_n, .str q.f_s])) rfl rfl rfl (.cons rfl (.cons rfl (.cons rfl (.cons rfl (.cons rfl (.cons rfl (.cons rfl (.cons rfl (.cons rfl (.cons rfl (.cons rfl (.cons rfl (.cons rfl .nil))))))))))))) hx1) <| un <| a2v (v := (.c (.ref 2 2 0 0))) (h' := upd _ 2 (some (.cells 2 [[cI 0, .str []]]))) (n' := 3) rfl rfl hcs <| un <| a2n (h' := upd _ 2 (some (.cells 2 [[cI x_.f_n, .str x_.f_s]]))) (n' := 3) rfl rfl hcs <| dnil <| Sv.block ?_
  obtain ⟨kk, h⟩ := lim_some h
  refine Sv.weak (wcn [0, 1, 2] rfl (.cf rfl rfl (.cf rfl rfl (.cr rfl rfl rfl (.cr rfl rfl rfl (.cf rfl rfl .nil))))) (.box (by decide) rfl (blkAs_cells (.sm rfl (.sm rfl .nil))) (.buf (by decide) rfl (.box (by decide) rfl (.bld rfl (by decide)) .nil)))) (Z7j hzb h ?_ hr)
  ·intro n_3 b_3 zb_3 hzb_3 h _ hw1
   refine Sv.weak hw1 <| srg <| un1 (v := (I (wi (v20 + 1)))) rfl <| un1 rfl <| dnil ?_
   exact hself n_3 b_3 (wi (v20 + 1)) zb_3 hzb_3 h _ (wcn [0, 1] rfl (.cf rfl rfl (.cf rfl rfl (.cr rfl rfl rfl (.cf rfl rfl .nil)))) (.buf (by decide) rfl (.box (by decide) rfl (.bld rfl (by decide)) .nil)))
 ·refine Sv.exit ?_
  exact hK0 b_ zb hzb h _ (wcn [0, 1] rfl (.cr rfl rfl rfl .nil) (.buf (by decide) rfl (.box (by decide) rfl (.bld rfl (by decide)) .nil)))
/-- clerestory/count.roman -/
noncomputable def Z1r (n_ : Int) : Option Tx :=
 lim fun kk1 => Zq (fun (b_1 : Tx) => 
   some b_1) kk1 n_ ([] : List UInt8) 0
theorem Z4o {mL : Int} {n_ : Int} {r : Tx} (h : Z1r n_ = some r) : CPure Tryz.prog (GG mL) 52 [(I n_)] (S r) := by
 refine acalls_of_sv hmix c52 (R := Z3t r) ?_
 unfold Z1r at h
 refine ssr <| un1 rfl <| dnil <| ssr <| un <| a2v (v := (.c (.ref 1 2 0 0))) (h' := upd _ 1 (some (.bld 99 true 0 ([] : List UInt8).length))) (n' := 2) rfl rfl hcs <| dnil <| Sv.seq <| ssr <| un1 (v := (.agg [cI 1000, .str [109]])) rfl <| un1 (v := (.agg [cI 900, .str [99, 109]])) rfl <| un1 (v := (.agg [cI 500, .str [100]])) rfl <| un1 (v := (.agg [cI 400, .str [99, 100]])) rfl <| un1 (v := (.agg [cI 100, .str [99]])) rfl <| un1 (v := (.agg [cI 90, .str [120, 99]])) rfl <| un1 (v := (.agg [cI 50, .str [108]])) rfl <| un1 (v := (.agg [cI 40, .str [120, 108]])) rfl <| un1 (v := (.agg [cI 10, .str [120]])) rfl <| un1 (v := (.agg [cI 9, .str [105, 120]])) rfl <| un1 (v := (.agg [cI 5, .str [118]])) rfl <| un1 (v := (.agg [cI 4, .str [105, 118]])) rfl <| un1 (v := (.agg [cI 1, .str [105]])) rfl <| un1 (v := Z7g) rfl <| un1 rfl <| dnil <| Sv.block ?_
 obtain ⟨kk1, h⟩ := lim_some h
 refine Sv.weak (wcn [1, 1000] rfl (.cf rfl rfl (.cf rfl rfl (.cr rfl rfl rfl (.cf rfl rfl .nil)))) (.nonB (by decide) (.box (by decide) rfl (.bldN (by decide)) .nil))) (Z7m (fun _ => rfl) h ?_ (fun s hs => hs))
 ·intro b_1 zb_1 hzb_1 h _ hw2
  refine Sv.weak hw2 <| ssr <| un <| ac_gen (bs := [0, 1]) («as» := [(.c (.ref 0 2 0 0))]) (h2 := _) (h1 := (upd (upd e0 0 (some (.bld 99 zb_1 1 b_1.length))) 1 (bufB zb_1 5 b_1))) (Z7f (z := zb_1) (l := b_1) hzb_1) rfl (.cons (.c (.ref rfl (by decide))) .nil) (hsub_refl _) (.cons rfl (.cons rfl (.nil _))) hcs (by decide) (by decide) (.cons (.c (.ref rfl (by decide))) .nil) (.buf (by decide) rfl (.box (by decide) rfl (.bld rfl (by decide)) .nil)) ?_
  rintro _ _ _ hn ⟨rfl, rfl, rfl⟩
  refine ⟨.inl rfl, (rem [0, 1] _), fun hbd => (m3_rem (in_cons (by decide) (in_cons (by decide) (in_nil _))) (.nil) hbd), (S b_1), 2, rfl, rfl, ?_⟩
  refine un1 rfl <| dnil <| Sv.ret ?_
  exact rt0 h rfl rfl ⟨rfl, rfl, rfl⟩
noncomputable abbrev Z4p (i_ : Int) : Option Tx := itoa? i_
/-- strconv.Itoa, by the contract of the shelf -/
theorem Z7n {mL : Int} {i_ : Int} {r : Tx} (h : Z4p i_ = some r) : CPure Tryz.prog (GG mL) 53 [(I i_)] (S r) := itoa_ok (g := 4) Tryz.laysM171 (by kernel_rfl) (by kernel_rfl) h
def a25 : AFunc := ⟨2, [(.tmp 4)], (sr [(oP 4 (.mov (.const (.c (.str [])))))]
 (.seq (.block 0 (sr [(mV 6 0), (oP 7 (.bin .eql (.tmp 6) (kI 0))), (mV 5 7)]
 (.cond (.tmp 5) (sr [(oP 4 (.mov (.const (.c (.str [])))))]
 .ret) (sr [(mV 9 0), (oP 10 (.bin .eql (.tmp 9) (kI 1))), (mV 8 10)]
 (.cond (.tmp 8) (sr [(oP 4 (.mov (.const (.c (.str [226, 128, 162])))))]
 .ret) (sr [(mV 12 0), (oP 13 (.bin .eql (.tmp 12) (kI 3))), (mV 14 13), ⟨(some 15), (.mov (.tmp 1)), (some (14, true))⟩, ⟨(some 16), (.bin .gtr (.tmp 15) (kI 0)), (some (14, true))⟩, (oP 17 (.pick (.tmp 14) (.tmp 16) kF)), (mV 11 17)]
 (.cond (.tmp 11) (sr [(mV 18 1), (oP 19 (.call 50 [(.tmp 18)])), (mV 4 19)]
 .ret) (sr [(mV 21 0), (oP 22 (.bin .eql (.tmp 21) (kI 4))), (mV 23 22), ⟨(some 24), (.mov (.tmp 1)), (some (23, true))⟩, ⟨(some 25), (.bin .gtr (.tmp 24) (kI 0)), (some (23, true))⟩, (oP 26 (.pick (.tmp 23) (.tmp 25) kF)), (mV 20 26)]
 (.cond (.tmp 20) (sr [(mV 27 1), (oP 28 (.call 50 [(.tmp 27)])), (oP 29 (.call 51 [(.tmp 28)])), (mV 4 29)]
 .ret) (sr [(mV 31 0), (oP 32 (.bin .eql (.tmp 31) (kI 5))), (mV 33 32), ⟨(some 34), (.mov (.tmp 1)), (some (33, true))⟩, ⟨(some 35), (.call 47 [(.tmp 34), (kI 1), (kI 3999)]), (some (33, true))⟩, (oP 36 (.pick (.tmp 33) (.tmp 35) kF)), (mV 30 36)]
 (.cond (.tmp 30) (sr [(mV 37 1), (oP 38 (.call 52 [(.tmp 37)])), (mV 4 38)]
 .ret) (sr [(mV 40 0), (oP 41 (.bin .eql (.tmp 40) (kI 6))), (mV 42 41), ⟨(some 43), (.mov (.tmp 1)), (some (42, true))⟩, ⟨(some 44), (.call 47 [(.tmp 43), (kI 1), (kI 3999)]), (some (42, true))⟩, (oP 45 (.pick (.tmp 42) (.tmp 44) kF)), (mV 39 45)]
 (.cond (.tmp 39) (sr [(mV 46 1), (oP 47 (.call 52 [(.tmp 46)])), (oP 48 (.call 51 [(.tmp 47)])), (mV 4 48)]
 .ret) .skip)))))))))))))
 (sr [(mV 49 1), (oP 50 (.call 53 [(.tmp 49)])), (mV 4 50)]
 .ret)))⟩
theorem c25 : compFunc Tryz.prog 25 = some a25 := by kernel_rfl
def Z7o (r : Tx) : AV → Heap → Nat → Prop := fun v h' n' => v = (S r) ∧ (h' = e0) ∧ n' = 0
/-- clerestory/count.mark -/
noncomputable def Zk (kind : Int) (n_ : Int) : Option Tx :=
 if decide (kind = 0) then
  some []
 else
  if decide (kind = 1) then
   some [226, 128, 162]
  else
   if ((decide (kind = 3)) && (decide (0 < n_))) then
    (Z2x n_).bind fun r_ =>
    some r_
   else
    if ((decide (kind = 4)) && (decide (0 < n_))) then
     (Z2x n_).bind fun r_1 =>
     none
    else
     if ((decide (kind = 5)) && (Z2 n_ 1 3999)) then
      (Z1r n_).bind fun r_2 =>
      some r_2
     else
      if ((decide (kind = 6)) && (Z2 n_ 1 3999)) then
       (Z1r n_).bind fun r_3 =>
       none
      else
       (Z4p n_).bind fun r_4 =>
       some r_4
theorem Z2y {mL : Int} {kind : Int} {n_ : Int} {r : Tx} (h : Zk kind n_ = some r) : CPure Tryz.prog (GG mL) 25 [(I kind), (I n_)] (S r) := by
 refine acalls_of_sv hmix c25 (R := Z7o r) ?_
 unfold Zk at h
 refine ssr <| un1 rfl <| dnil <| Sv.seq <| Sv.block <| ssr <| un1 rfl <| un1 (v := (B (decide (kind = 0)))) rfl <| un1 rfl <| dnil ?_
 refine Sv.cnd rfl h (fun h => ?_) fun h => ?_
 ·refine ssr <| un1 rfl <| dnil <| Sv.ret ?_
  exact rt0 h rfl rfl ⟨rfl, rfl, rfl⟩
 ·refine ssr <| un1 rfl <| un1 (v := (B (decide (kind = 1)))) rfl <| un1 rfl <| dnil ?_
  refine Sv.cnd rfl h (fun h => ?_) fun h => ?_
  ·refine ssr <| un1 rfl <| dnil <| Sv.ret ?_
   exact rt0 h rfl rfl ⟨rfl, rfl, rfl⟩
  ·refine ssr <| un1 rfl <| un1 (v := (B (decide (kind = 3)))) rfl <| un1 rfl ?_
   refine gjoin 3 (d := 17) (v := (B ((decide (kind = 3)) && (decide (0 < n_))))) (fun X hX => ?_) ?_
   ·refine split2 (fun hc3 => ?_) (fun hc3 => ?_)
    ·refine gt rfl <| a1 rfl <| gt rfl <| a1 (v := (B (decide (0 < n_)))) rfl <| un1 (v := (B (decide (0 < n_)))) rfl <| dnil ?_
     exact hX _ (.putEq (by rw [hc3]; rfl) (.skp (.skp (.putEq (by rw [hc3]) (.refl _)) rfl) rfl))
    ·refine gs rfl rfl <| gs rfl rfl <| un1 (v := (B false)) rfl <| dnil ?_
     exact hX _ (.putEq (by rw [hc3]; rfl) (.skp (.skp (.putEq (by rw [hc3]) (.refl _)) rfl) rfl))
   refine un1 rfl <| dnil ?_
   refine Sv.cnd rfl h (fun h => ?_) fun h => ?_
   ·refine ssr <| un1 rfl ?_
    obtain ⟨r_, hr1, h⟩ := bnd h
    refine un <| ac_pure (Z4k hr1) rfl rfl rfl <| un1 rfl <| dnil <| Sv.ret ?_
    exact rt0 h rfl rfl ⟨rfl, rfl, rfl⟩
   ·refine ssr <| un1 rfl <| un1 (v := (B (decide (kind = 4)))) rfl <| un1 rfl ?_
    refine gjoin 3 (d := 26) (v := (B ((decide (kind = 4)) && (decide (0 < n_))))) (fun X hX => ?_) ?_
    ·refine split2 (fun hc5 => ?_) (fun hc5 => ?_)
     ·refine gt rfl <| a1 rfl <| gt rfl <| a1 (v := (B (decide (0 < n_)))) rfl <| un1 (v := (B (decide (0 < n_)))) rfl <| dnil ?_
      exact hX _ (.putEq (by rw [hc5]; rfl) (.skp (.skp (.putEq (by rw [hc5]) (.refl _)) rfl) rfl))
     ·refine gs rfl rfl <| gs rfl rfl <| un1 (v := (B false)) rfl <| dnil ?_
      exact hX _ (.putEq (by rw [hc5]; rfl) (.skp (.skp (.putEq (by rw [hc5]) (.refl _)) rfl) rfl))
    refine un1 rfl <| dnil ?_
    refine Sv.cnd rfl h (fun h => ?_) fun h => ?_
    ·refine ssr <| un1 rfl ?_
     obtain ⟨r_1, hr2, h⟩ := bnd h
     refine un <| ac_pure (Z4k hr2) rfl rfl rfl ?_
     cases h
    ·refine ssr <| un1 rfl <| un1 (v := (B (decide (kind = 5)))) rfl <| un1 rfl ?_
     refine gjoin 3 (d := 36) (v := (B ((decide (kind = 5)) && (Z2 n_ 1 3999)))) (fun X hX => ?_) ?_
     ·refine split2 (fun hc7 => ?_) (fun hc7 => ?_)
      ·refine gt rfl <| a1 rfl <| gt rfl <| ac_pure (Z1q (mL := mL) n_ 1 3999) rfl rfl rfl <| un1 (v := (B (Z2 n_ 1 3999))) rfl <| dnil ?_
       exact hX _ (.putEq (by rw [hc7]; rfl) (.skp (.skp (.putEq (by rw [hc7]) (.refl _)) rfl) rfl))
      ·refine gs rfl rfl <| gs rfl rfl <| un1 (v := (B false)) rfl <| dnil ?_
       exact hX _ (.putEq (by rw [hc7]; rfl) (.skp (.skp (.putEq (by rw [hc7]) (.refl _)) rfl) rfl))
     refine un1 rfl <| dnil ?_
     refine Sv.cnd rfl h (fun h => ?_) fun h => ?_
     ·refine ssr <| un1 rfl ?_
      obtain ⟨r_2, hr3, h⟩ := bnd h
      refine un <| ac_pure (Z4o hr3) rfl rfl rfl <| un1 rfl <| dnil <| Sv.ret ?_
      exact rt0 h rfl rfl ⟨rfl, rfl, rfl⟩
     ·refine ssr <| un1 rfl <| un1 (v := (B (decide (kind = 6)))) rfl <| un1 rfl ?_
      refine gjoin 3 (d := 45) (v := (B ((decide (kind = 6)) && (Z2 n_ 1 3999)))) (fun X hX => ?_) ?_
      ·refine split2 (fun hc9 => ?_) (fun hc9 => ?_)
       ·refine gt rfl <| a1 rfl <| gt rfl <| ac_pure (Z1q (mL := mL) n_ 1 3999) rfl rfl rfl <| un1 (v := (B (Z2 n_ 1 3999))) rfl <| dnil ?_
        exact hX _ (.putEq (by rw [hc9]; rfl) (.skp (.skp (.putEq (by rw [hc9]) (.refl _)) rfl) rfl))
       ·refine gs rfl rfl <| gs rfl rfl <| un1 (v := (B false)) rfl <| dnil ?_
        exact hX _ (.putEq (by rw [hc9]; rfl) (.skp (.skp (.putEq (by rw [hc9]) (.refl _)) rfl) rfl))
      refine un1 rfl <| dnil ?_
      refine Sv.cnd rfl h (fun h => ?_) fun h => ?_
      ·refine ssr <| un1 rfl ?_
       obtain ⟨r_3, hr4, h⟩ := bnd h
       refine un <| ac_pure (Z4o hr4) rfl rfl rfl ?_
       cases h
      ·refine Sv.skip <| ssr <| un1 rfl ?_
       obtain ⟨r_4, hr5, h⟩ := bnd h
       refine un <| ac_pure (Z7n hr5) rfl rfl rfl <| un1 rfl <| dnil <| Sv.ret ?_
       exact rt0 h rfl rfl ⟨rfl, rfl, rfl⟩
def a22 : AFunc := ⟨2, [(.tmp 4), (.tmp 5)], (sr [(oP 4 (.mov (.const (.c (.str []))))), (oP 5 (.mov (kI 0)))]
 (.seq (sr [(mV 6 0), (oP 7 (.call 47 [(.tmp 6), (kI 0), (kI 6)])), (oP 8 (.un .not (.tmp 7)))]
 (.cond (.tmp 8) (sr [(oP 4 (.mov (.const (.c (.str []))))), (oP 5 (.mov (kI 7)))]
 .ret) .skip))
 (.seq (sr [(mV 9 1), (oP 10 (.call 47 [(.tmp 9), (.const (.c (.val (.int .i64 (-1000000))))), (kI 1000000)])), (oP 11 (.un .not (.tmp 10)))]
 (.cond (.tmp 11) (sr [(oP 4 (.mov (.const (.c (.str []))))), (oP 5 (.mov (kI 1)))]
 .ret) .skip))
 (sr [(mV 12 0), (mV 13 1), (oP 14 (.call 25 [(.tmp 12), (.tmp 13)])), (mV 4 14), (oP 5 (.mov (kI 0)))]
 .ret))))⟩
theorem c22 : compFunc Tryz.prog 22 = some a22 := by kernel_rfl
def Z7p (r : (Tx × Int)) : AV → Heap → Nat → Prop := fun v h' n' => v = (.tup [(S r.1), (I r.2)]) ∧ (h' = e0) ∧ n' = 0
/-- clerestory/count.Mark -/
noncomputable def Z2z (kind : Int) (n_ : Int) : Option (Tx × Int) :=
 if (!(Z2 kind 0 6)) then
  some ([], 7)
 else
  if (!(Z2 n_ (-1000000) 1000000)) then
   some ([], 1)
  else
   (Zk kind n_).bind fun r_ =>
   some (r_, 0)
theorem Z7q {mL : Int} {kind : Int} {n_ : Int} {r : (Tx × Int)} (h : Z2z kind n_ = some r) : CPure Tryz.prog (GG mL) 22 [(I kind), (I n_)] (.tup [(S r.1), (I r.2)]) := by
 refine acalls_of_sv hmix c22 (R := Z7p r) ?_
 unfold Z2z at h
 refine ssr <| un1 rfl <| un1 rfl <| dnil <| Sv.seq <| ssr <| un1 rfl <| un <| ac_pure (Z1q (mL := mL) kind 0 6) rfl rfl rfl <| un1 (v := (B (!(Z2 kind 0 6)))) rfl <| dnil ?_
 refine Sv.cnd rfl h (fun h => ?_) fun h => ?_
 ·refine ssr <| un1 rfl <| un1 rfl <| dnil <| Sv.ret ?_
  exact rt0 h rfl rfl ⟨rfl, rfl, rfl⟩
 ·refine Sv.skip <| Sv.seq <| ssr <| un1 rfl <| un <| ac_pure (Z1q (mL := mL) n_ (-1000000) 1000000) rfl rfl rfl <| un1 (v := (B (!(Z2 n_ (-1000000) 1000000)))) rfl <| dnil ?_
  refine Sv.cnd rfl h (fun h => ?_) fun h => ?_
  ·refine ssr <| un1 rfl <| un1 rfl <| dnil <| Sv.ret ?_
   exact rt0 h rfl rfl ⟨rfl, rfl, rfl⟩
  ·refine Sv.skip <| ssr <| un1 rfl <| un1 rfl ?_
   obtain ⟨r_, hr1, h⟩ := bnd h
   refine un <| ac_pure (Z2y hr1) rfl rfl rfl <| un1 rfl <| un1 rfl <| dnil <| Sv.ret ?_
   exact rt0 h rfl rfl ⟨rfl, rfl, rfl⟩
def a6 : AFunc := ⟨0, [(.tmp 0)], (sr [(oP 0 (.mov kF))]
 (sr [(oP 4 (.call 22 [(kI 5), (kI 14)])), (mV 3 4), (oP 5 (.ext (.tmp 3) 0)), (oP 6 (.ext (.tmp 3) 1)), (mV 1 5), (mV 2 6)]
 (sr [(mV 7 2), (oP 8 (.bin .eql (.tmp 7) (kI 0))), (mV 9 8), ⟨(some 10), (.mov (.tmp 1)), (some (9, true))⟩, ⟨(some 11), (.bin .eql (.tmp 10) (.const (.c (.str [120, 105, 118])))), (some (9, true))⟩, (oP 12 (.pick (.tmp 9) (.tmp 11) kF)), (mV 0 12)]
 .ret)))⟩
theorem c6 : compFunc Tryz.prog 6 = some a6 := by kernel_rfl
def Z7r (r : Bool) : AV → Heap → Nat → Prop := fun v h' n' => v = (B r) ∧ (h' = e0) ∧ n' = 0
/-- clerestory/clerestorylaw2.fourth -/
noncomputable def Z2c : Option Bool :=
 (Z2z 5 14).bind fun r_ =>
 some ((decide (r_.2 = 0)) && (decide (r_.1 = [120, 105, 118])))
theorem Z7s {mL : Int} {r : Bool} (h : Z2c = some r) : CPure Tryz.prog (GG mL) 6 [] (B r) := by
 refine acalls_of_sv hmix c6 (R := Z7r r) ?_
 unfold Z2c at h
 refine ssr <| un1 rfl <| dnil <| ssr ?_
 obtain ⟨r_, hr1, h⟩ := bnd h
 refine un <| ac_pure (Z7q hr1) rfl rfl rfl <| un1 rfl <| un1 (v := (S r_.1)) rfl <| un1 (v := (I r_.2)) rfl <| un1 rfl <| un1 rfl <| dnil <| ssr <| un1 rfl <| un1 (v := (B (decide (r_.2 = 0)))) rfl <| un1 rfl ?_
 refine gjoin 3 (d := 12) (v := (B ((decide (r_.2 = 0)) && (decide (r_.1 = [120, 105, 118]))))) (fun X hX => ?_) ?_
 ·refine split2 (fun hc1 => ?_) (fun hc1 => ?_)
  ·refine gt rfl <| a1 rfl <| gt rfl <| a1 (v := (B (decide (r_.1 = [120, 105, 118])))) rfl <| un1 (v := (B (decide (r_.1 = [120, 105, 118])))) rfl <| dnil ?_
   exact hX _ (.putEq (by rw [hc1]; rfl) (.skp (.skp (.putEq (by rw [hc1]) (.refl _)) rfl) rfl))
  ·refine gs rfl rfl <| gs rfl rfl <| un1 (v := (B false)) rfl <| dnil ?_
   exact hX _ (.putEq (by rw [hc1]; rfl) (.skp (.skp (.putEq (by rw [hc1]) (.refl _)) rfl) rfl))
 refine un1 rfl <| dnil <| Sv.ret ?_
 exact rt0 h rfl rfl ⟨rfl, rfl, rfl⟩
def a106 : AFunc := ⟨1, [(.tmp 2)], (sr [(oP 2 (.mov kF))]
 (sr [(mV 3 0), (oP 4 (.bin .eql (.tmp 3) (kI 1))), (mV 5 4), ⟨(some 6), (.mov (.tmp 0)), (some (5, false))⟩, ⟨(some 7), (.bin .eql (.tmp 6) (kI 2)), (some (5, false))⟩, (oP 8 (.pick (.tmp 5) kT (.tmp 7))), (mV 2 8)]
 .ret))⟩
theorem c106 : compFunc Tryz.prog 106 = some a106 := by kernel_rfl
def Z7t (r : Bool) : AV → Heap → Nat → Prop := fun v h' n' => v = (B r) ∧ (h' = e0) ∧ n' = 0
/-- clerestory/dom.parent -/
def Zu (kind : Int) : Bool :=
 ((decide (kind = 1)) || (decide (kind = 2)))
theorem Z7u {mL : Int} (kind : Int) : CPure Tryz.prog (GG mL) 106 [(I kind)] (B (Zu kind)) := by
 generalize h : Zu kind = o
 refine acalls_of_sv hmix c106 (R := Z7t o) ?_
 unfold Zu at h
 refine ssr <| un1 rfl <| dnil <| ssr <| un1 rfl <| un1 (v := (B (decide (kind = 1)))) rfl <| un1 rfl ?_
 refine gjoin 3 (d := 8) (v := (B ((decide (kind = 1)) || (decide (kind = 2))))) (fun X hX => ?_) ?_
 ·refine split2 (fun hc1 => ?_) (fun hc1 => ?_)
  ·refine gs rfl rfl <| gs rfl rfl <| un1 (v := (B true)) rfl <| dnil ?_
   exact hX _ (.putEq (by rw [hc1]; rfl) (.skp (.skp (.putEq (by rw [hc1]) (.refl _)) rfl) rfl))
  ·refine gt rfl <| a1 rfl <| gt rfl <| a1 (v := (B (decide (kind = 2)))) rfl <| un1 (v := (B (decide (kind = 2)))) rfl <| dnil ?_
   exact hX _ (.putEq (by rw [hc1]; rfl) (.skp (.skp (.putEq (by rw [hc1]) (.refl _)) rfl) rfl))
 refine un1 rfl <| dnil <| Sv.ret ?_
 subst h
 exact ⟨_, .refl _, _, rfl, ⟨upd e0 0 (some (B ((decide (kind = 1)) || (decide (kind = 2))))), e0, 0⟩, (B ((decide (kind = 1)) || (decide (kind = 2)))), weak_canon [] rfl ndl nll nlz (.cf rfl rfl .nil) .nil, rfl, rfl, rfl, rfl⟩
def a69 : AFunc := ⟨1, [(.tmp 2)], (sr [(oP 1 (.box (.tmp 0))), (oP 2 (.mov kF))]
 (.seq (.drawn (.fin [((oP 5 (.faddr 0 (.tmp 1))), (0, 0)), ((oP 6 (.load false 1 (.tmp 5))), (0, 1)), ((oP 7 (.bin .eql (.tmp 6) (kI 2))), (0, 2)), ((oP 8 (.faddr 0 (.tmp 1))), (0, 3)), ((oP 9 (.load false 1 (.tmp 8))), (0, 4)), ((oP 10 (.bin .eql (.tmp 9) (kI 3))), (0, 5)), ((mV 11 10), (0, 6)), (⟨(some 12), (.faddr 0 (.tmp 1)), (some (11, false))⟩, (0, 7)), (⟨(some 13), (.load false 1 (.tmp 12)), (some (11, false))⟩, (0, 8)), (⟨(some 14), (.bin .eql (.tmp 13) (kI 4)), (some (11, false))⟩, (0, 9)), ((oP 15 (.pick (.tmp 11) kT (.tmp 14))), (0, 10)), ((mV 3 7), (0, 11)), ((mV 4 15), (0, 12))]))
 (sr [(mV 16 3), (mV 17 16), ⟨(some 18), (.faddr 0 (.tmp 1)), (some (17, false))⟩, ⟨(some 19), (.load false 1 (.tmp 18)), (some (17, false))⟩, ⟨(some 20), (.bin .eql (.tmp 19) (kI 5)), (some (17, false))⟩, (oP 21 (.pick (.tmp 17) kT (.tmp 20))), (mV 22 21), ⟨(some 23), (.faddr 1 (.tmp 1)), (some (22, false))⟩, ⟨(some 24), (.load false 1 (.tmp 23)), (some (22, false))⟩, ⟨(some 25), (.bin .eql (.tmp 24) (.const (.c (.str [])))), (some (22, false))⟩, (oP 26 (.pick (.tmp 22) kT (.tmp 25))), (mV 27 26), ⟨(some 28), (.mov (.tmp 3)), (some (27, true))⟩, ⟨(some 29), (.mov (.tmp 28)), (some (27, true))⟩, ⟨(some 30), (.faddr 2 (.tmp 1)), (some (29, false))⟩, ⟨(some 31), (.load false 1 (.tmp 30)), (some (29, false))⟩, ⟨(some 32), (.len (.tmp 31)), (some (29, false))⟩, ⟨(some 33), (.bin .eql (.tmp 32) (kI 0)), (some (29, false))⟩, ⟨(some 34), (.pick (.tmp 29) kT (.tmp 33)), (some (27, true))⟩, (oP 35 (.pick (.tmp 27) (.tmp 34) kF)), (mV 36 35), ⟨(some 37), (.mov (.tmp 4)), (some (36, true))⟩, ⟨(some 38), (.mov (.tmp 37)), (some (36, true))⟩, ⟨(some 39), (.faddr 3 (.tmp 1)), (some (38, false))⟩, ⟨(some 40), (.load false 1 (.tmp 39)), (some (38, false))⟩, ⟨(some 41), (.bin .eql (.tmp 40) (.const (.c (.str [])))), (some (38, false))⟩, ⟨(some 42), (.pick (.tmp 38) kT (.tmp 41)), (some (36, true))⟩, (oP 43 (.pick (.tmp 36) (.tmp 42) kF)), (mV 44 43), ⟨(some 45), (.faddr 0 (.tmp 1)), (some (44, true))⟩, ⟨(some 46), (.load false 1 (.tmp 45)), (some (44, true))⟩, ⟨(some 47), (.call 106 [(.tmp 46)]), (some (44, true))⟩, ⟨(some 48), (.mov (.tmp 47)), (some (44, true))⟩, ⟨(some 49), (.faddr 5 (.tmp 1)), (some (48, false))⟩, ⟨(some 50), (.load false 1 (.tmp 49)), (some (48, false))⟩, ⟨(some 51), (.len (.tmp 50)), (some (48, false))⟩, ⟨(some 52), (.bin .eql (.tmp 51) (kI 0)), (some (48, false))⟩, ⟨(some 53), (.pick (.tmp 48) kT (.tmp 52)), (some (44, true))⟩, (oP 54 (.pick (.tmp 44) (.tmp 53) kF)), (mV 2 54)]
 .ret)))⟩
theorem c69 : compFunc Tryz.prog 69 = some a69 := by kernel_rfl
def Z7v (r : Bool) : AV → Heap → Nat → Prop := fun v h' n' => v = (B r) ∧ (h' = e0) ∧ n' = 0
/-- clerestory/dom.bare -/
def Z19 (x_ : TNode) : Bool :=
 ((((((decide (x_.Kind = 2)) || (decide (x_.Kind = 5))) || (decide (x_.Name = []))) && ((decide (x_.Kind = 2)) || (decide ((x_.Attrs.length : Int) = 0)))) && (((decide (x_.Kind = 3)) || (decide (x_.Kind = 4))) || (decide (x_.Text = [])))) && ((Zu x_.Kind) || (decide ((x_.Kids.length : Int) = 0))))
theorem Z7w {mL : Int} (x_ : TNode) : CPure Tryz.prog (GG mL) 69 [(.agg (e_TNode x_))] (B (Z19 x_)) := by
 generalize h : Z19 x_ = o
 refine acalls_of_sv hmix c69 (R := Z7v o) ?_
 unfold Z19 at h
 refine ssr <| un <| a2v (v := (.c (.ref 0 6 0 0))) (h' := upd _ 0 (some (.cells 6 [(e_TNode x_)]))) (n' := 1) rfl rfl hcs <| un1 rfl <| dnil <| Sv.seq <| Sv.drawn <| un1 (v := (.c (.ref 0 6 0 0))) rfl <| un1 (v := (I x_.Kind)) rfl <| un1 (v := (B (decide (x_.Kind = 2)))) rfl <| un1 (v := (.c (.ref 0 6 0 0))) rfl <| un1 (v := (I x_.Kind)) rfl <| un1 (v := (B (decide (x_.Kind = 3)))) rfl <| un1 rfl ?_
 refine gjoin 4 (d := 15) (v := (B ((decide (x_.Kind = 3)) || (decide (x_.Kind = 4))))) (fun X hX => ?_) ?_
 ·refine split2 (fun hc1 => ?_) (fun hc1 => ?_)
  ·refine gs rfl rfl <| gs rfl rfl <| gs rfl rfl <| un1 (v := (B true)) rfl <| dnil ?_
   exact hX _ (.putEq (by rw [hc1]; rfl) (.skp (.skp (.skp (.putEq (by rw [hc1]) (.refl _)) rfl) rfl) rfl))
  ·refine gt rfl <| a1 (v := (.c (.ref 0 6 0 0))) rfl <| gt rfl <| a1 (v := (I x_.Kind)) rfl <| gt rfl <| a1 (v := (B (decide (x_.Kind = 4)))) rfl <| un1 (v := (B (decide (x_.Kind = 4)))) rfl <| dnil ?_
   exact hX _ (.putEq (by rw [hc1]; rfl) (.skp (.skp (.skp (.putEq (by rw [hc1]) (.refl _)) rfl) rfl) rfl))
 refine un1 rfl <| un1 rfl <| dnil <| ssr <| un1 rfl <| un1 rfl ?_
 refine gjoin 4 (d := 21) (v := (B ((decide (x_.Kind = 2)) || (decide (x_.Kind = 5))))) (fun X hX => ?_) ?_
 ·refine split2 (fun hc2 => ?_) (fun hc2 => ?_)
  ·refine gs rfl rfl <| gs rfl rfl <| gs rfl rfl <| un1 (v := (B true)) rfl <| dnil ?_
   exact hX _ (.putEq (by rw [hc2]; rfl) (.skp (.skp (.skp (.putEq (by rw [hc2]) (.refl _)) rfl) rfl) rfl))
  ·refine gt rfl <| a1 (v := (.c (.ref 0 6 0 0))) rfl <| gt rfl <| a1 (v := (I x_.Kind)) rfl <| gt rfl <| a1 (v := (B (decide (x_.Kind = 5)))) rfl <| un1 (v := (B (decide (x_.Kind = 5)))) rfl <| dnil ?_
   exact hX _ (.putEq (by rw [hc2]; rfl) (.skp (.skp (.skp (.putEq (by rw [hc2]) (.refl _)) rfl) rfl) rfl))
 refine un1 rfl ?_
 refine gjoin 4 (d := 26) (v := (B (((decide (x_.Kind = 2)) || (decide (x_.Kind = 5))) || (decide (x_.Name = []))))) (fun X hX => ?_) ?_
 ·refine split2 (fun hc3 => ?_) (fun hc3 => ?_)
  ·refine gs rfl rfl <| gs rfl rfl <| gs rfl rfl <| un1 (v := (B true)) rfl <| dnil ?_
   exact hX _ (.putEq (by rw [hc3]; rfl) (.skp (.skp (.skp (.putEq (by rw [hc3]) (.refl _)) rfl) rfl) rfl))
  ·refine gt rfl <| a1 (v := (.c (.ref 0 6 0 1))) rfl <| gt rfl <| a1 (v := (S x_.Name)) rfl <| gt rfl <| a1 (v := (B (decide (x_.Name = [])))) rfl <| un1 (v := (B (decide (x_.Name = [])))) rfl <| dnil ?_
   exact hX _ (.putEq (by rw [hc3]; rfl) (.skp (.skp (.skp (.putEq (by rw [hc3]) (.refl _)) rfl) rfl) rfl))
 refine un1 rfl ?_
 refine gjoin 8 (d := 35) (v := (B ((((decide (x_.Kind = 2)) || (decide (x_.Kind = 5))) || (decide (x_.Name = []))) && ((decide (x_.Kind = 2)) || (decide ((x_.Attrs.length : Int) = 0)))))) (fun X hX => ?_) ?_
 ·refine split2 (fun hc5 => ?_) (fun hc5 => ?_)
  ·refine gt rfl <| a1 rfl <| gt rfl <| a1 rfl ?_
   refine gjoin 5 (d := 34) (v := (B ((decide (x_.Kind = 2)) || (decide ((x_.Attrs.length : Int) = 0))))) (fun X hX => ?_) ?_
   ·refine split2 (fun hc4 => ?_) (fun hc4 => ?_)
    ·refine gs rfl rfl <| gs rfl rfl <| gs rfl rfl <| gs rfl rfl <| gt rfl <| a1 (v := (B true)) rfl <| dnil ?_
     exact hX _ (.putEq (by rw [hc4]; rfl) (.skp (.skp (.skp (.skp (.putEq (by rw [hc4]) (.refl _)) rfl) rfl) rfl) rfl))
    ·refine gt rfl <| a1 (v := (.c (.ref 0 6 0 2))) rfl <| gt rfl <| a1 (v := (.c (.ro false 2 (x_.Attrs.map e_TAttr)))) rfl <| gt rfl <| a1 (v := (I (x_.Attrs.length : Int))) (s_len (e := e_TAttr) (xs := x_.Attrs) rfl) <| gt rfl <| a1 (v := (B (decide ((x_.Attrs.length : Int) = 0)))) rfl <| gt rfl <| a1 (v := (B (decide ((x_.Attrs.length : Int) = 0)))) rfl <| dnil ?_
     exact hX _ (.putEq (by rw [hc4]; rfl) (.skp (.skp (.skp (.skp (.putEq (by rw [hc4]) (.refl _)) rfl) rfl) rfl) rfl))
   refine un1 (v := (B ((decide (x_.Kind = 2)) || (decide ((x_.Attrs.length : Int) = 0))))) rfl <| dnil ?_
   exact hX _ (.putEq (by rw [hc5]; rfl) (.skp (.skp (.skp (.putEq (by rw [hc5]) (.refl _)) rfl) rfl) rfl))
  ·repeat (first | refine gu rfl ?_ | refine gs rfl rfl ?_)
   refine un1 (v := (B false)) rfl <| dnil ?_
   exact hX _ (.putEq (by rw [hc5]; rfl) (by repeat (first | exact .putEq (by rw [hc5]) (.refl _) | refine .skp ?_ rfl)))
 refine un1 rfl ?_
 refine gjoin 7 (d := 43) (v := (B (((((decide (x_.Kind = 2)) || (decide (x_.Kind = 5))) || (decide (x_.Name = []))) && ((decide (x_.Kind = 2)) || (decide ((x_.Attrs.length : Int) = 0)))) && (((decide (x_.Kind = 3)) || (decide (x_.Kind = 4))) || (decide (x_.Text = [])))))) (fun X hX => ?_) ?_
 ·refine split2 (fun hc7 => ?_) (fun hc7 => ?_)
  ·refine gt rfl <| a1 rfl <| gt rfl <| a1 rfl ?_
   refine gjoin 4 (d := 42) (v := (B (((decide (x_.Kind = 3)) || (decide (x_.Kind = 4))) || (decide (x_.Text = []))))) (fun X hX => ?_) ?_
   ·refine split2 (fun hc6 => ?_) (fun hc6 => ?_)
    ·refine gs rfl rfl <| gs rfl rfl <| gs rfl rfl <| gt rfl <| a1 (v := (B true)) rfl <| dnil ?_
     exact hX _ (.putEq (by rw [hc6]; rfl) (.skp (.skp (.skp (.putEq (by rw [hc6]) (.refl _)) rfl) rfl) rfl))
    ·refine gt rfl <| a1 (v := (.c (.ref 0 6 0 3))) rfl <| gt rfl <| a1 (v := (S x_.Text)) rfl <| gt rfl <| a1 (v := (B (decide (x_.Text = [])))) rfl <| gt rfl <| a1 (v := (B (decide (x_.Text = [])))) rfl <| dnil ?_
     exact hX _ (.putEq (by rw [hc6]; rfl) (.skp (.skp (.skp (.putEq (by rw [hc6]) (.refl _)) rfl) rfl) rfl))
   refine un1 (v := (B (((decide (x_.Kind = 3)) || (decide (x_.Kind = 4))) || (decide (x_.Text = []))))) rfl <| dnil ?_
   exact hX _ (.putEq (by rw [hc7]; rfl) (.skp (.skp (.skp (.putEq (by rw [hc7]) (.refl _)) rfl) rfl) rfl))
  ·repeat (first | refine gu rfl ?_ | refine gs rfl rfl ?_)
   refine un1 (v := (B false)) rfl <| dnil ?_
   exact hX _ (.putEq (by rw [hc7]; rfl) (by repeat (first | exact .putEq (by rw [hc7]) (.refl _) | refine .skp ?_ rfl)))
 refine un1 rfl ?_
 refine gjoin 10 (d := 54) (v := (B ((((((decide (x_.Kind = 2)) || (decide (x_.Kind = 5))) || (decide (x_.Name = []))) && ((decide (x_.Kind = 2)) || (decide ((x_.Attrs.length : Int) = 0)))) && (((decide (x_.Kind = 3)) || (decide (x_.Kind = 4))) || (decide (x_.Text = [])))) && ((Zu x_.Kind) || (decide ((x_.Kids.length : Int) = 0)))))) (fun X hX => ?_) ?_
 ·refine split2 (fun hc9 => ?_) (fun hc9 => ?_)
  ·refine gt rfl <| a1 (v := (.c (.ref 0 6 0 0))) rfl <| gt rfl <| a1 (v := (I x_.Kind)) rfl <| gt rfl <| ac_pure (Z7u (mL := mL) x_.Kind) rfl rfl rfl <| gt rfl <| a1 rfl ?_
   refine gjoin 5 (d := 53) (v := (B ((Zu x_.Kind) || (decide ((x_.Kids.length : Int) = 0))))) (fun X hX => ?_) ?_
   ·refine split2 (fun hc8 => ?_) (fun hc8 => ?_)
    ·refine gs rfl rfl <| gs rfl rfl <| gs rfl rfl <| gs rfl rfl <| gt rfl <| a1 (v := (B true)) rfl <| dnil ?_
     exact hX _ (.putEq (by rw [hc8]; rfl) (.skp (.skp (.skp (.skp (.putEq (by rw [hc8]) (.refl _)) rfl) rfl) rfl) rfl))
    ·refine gt rfl <| a1 (v := (.c (.ref 0 6 0 5))) rfl <| gt rfl <| a1 (v := (.c (.ro false 1 (x_.Kids.map eI)))) rfl <| gt rfl <| a1 (v := (I (x_.Kids.length : Int))) (s_len (e := eI) (xs := x_.Kids) rfl) <| gt rfl <| a1 (v := (B (decide ((x_.Kids.length : Int) = 0)))) rfl <| gt rfl <| a1 (v := (B (decide ((x_.Kids.length : Int) = 0)))) rfl <| dnil ?_
     exact hX _ (.putEq (by rw [hc8]; rfl) (.skp (.skp (.skp (.skp (.putEq (by rw [hc8]) (.refl _)) rfl) rfl) rfl) rfl))
   refine un1 (v := (B ((Zu x_.Kind) || (decide ((x_.Kids.length : Int) = 0))))) rfl <| dnil ?_
   exact hX _ (.putEq (by rw [hc9]; rfl) (by repeat (first | exact .putEq (by rw [hc9]) (.refl _) | refine .skp ?_ rfl)))
  ·repeat (first | refine gu rfl ?_ | refine gs rfl rfl ?_)
   refine un1 (v := (B false)) rfl <| dnil ?_
   exact hX _ (.putEq (by rw [hc9]; rfl) (by repeat (first | exact .putEq (by rw [hc9]) (.refl _) | refine .skp ?_ rfl)))
 refine un1 rfl <| dnil <| Sv.ret ?_
 subst h
 exact ⟨_, .refl _, _, rfl, ⟨upd e0 0 (some (B ((((((decide (x_.Kind = 2)) || (decide (x_.Kind = 5))) || (decide (x_.Name = []))) && ((decide (x_.Kind = 2)) || (decide ((x_.Attrs.length : Int) = 0)))) && (((decide (x_.Kind = 3)) || (decide (x_.Kind = 4))) || (decide (x_.Text = [])))) && ((Zu x_.Kind) || (decide ((x_.Kids.length : Int) = 0)))))), e0, 0⟩, (B ((((((decide (x_.Kind = 2)) || (decide (x_.Kind = 5))) || (decide (x_.Name = []))) && ((decide (x_.Kind = 2)) || (decide ((x_.Attrs.length : Int) = 0)))) && (((decide (x_.Kind = 3)) || (decide (x_.Kind = 4))) || (decide (x_.Text = [])))) && ((Zu x_.Kind) || (decide ((x_.Kids.length : Int) = 0))))), weak_canon [] rfl ndl nll nlz (.cf rfl rfl .nil) .nil, rfl, rfl, rfl, rfl⟩
noncomputable abbrev Z4q (s_ : Tx) (c_ : Int) : Option Int := indexByte? s_ c_
/-- strings.IndexByte, by the contract of the shelf -/
theorem Z7x {mL : Int} {s_ : Tx} {c_ : Int} {r : Int} (h : Z4q s_ c_ = some r) : CPure Tryz.prog (GG mL) 76 [(S s_), (.c (.val (.int .u8 c_)))] (I r) := indexByte_ok Tryz.lays137 h
noncomputable abbrev Z4r (s_ : Tx) (cutset_ : Tx) : Option Tx := trim? s_ cutset_
/-- strings.Trim, by the contract of the shelf -/
theorem Z7y {mL : Int} {s_ : Tx} {cutset_ : Tx} {r : Tx} (h : Z4r s_ cutset_ = some r) : CPure Tryz.prog (GG mL) 158 [(S s_), (S cutset_)] (S r) := trim_ok Tryz.lays160 (by kernel_rfl) h
def a107_c0 : ACode := .ret
def a107 : AFunc := ⟨2, [(.tmp 4)], (sr [(oP 4 (.mov kF))]
 (sr [(mV 5 0), (oP 6 (.bin .neq (.tmp 5) (.const (.c (.str []))))), (mV 7 6), ⟨(some 8), (.mov (.tmp 0)), (some (7, true))⟩, ⟨(some 9), (.lenS (.tmp 8)), (some (7, true))⟩, ⟨(some 10), (.bin .leq (.tmp 9) (kI 40)), (some (7, true))⟩, (oP 11 (.pick (.tmp 7) (.tmp 10) kF)), (mV 12 11), ⟨(some 13), (.mov (.tmp 1)), (some (12, true))⟩, ⟨(some 14), (.mov (.tmp 0)), (some (12, true))⟩, ⟨(some 15), (.idxS (.tmp 14) (kI 0)), (some (12, true))⟩, ⟨(some 16), (.call 76 [(.tmp 13), (.tmp 15)]), (some (12, true))⟩, ⟨(some 17), (.bin .geq (.tmp 16) (kI 0)), (some (12, true))⟩, (oP 18 (.pick (.tmp 12) (.tmp 17) kF)), (mV 19 18), ⟨(some 20), (.mov (.tmp 0)), (some (19, true))⟩, ⟨(some 21), (.call 158 [(.tmp 20), (.const (.c (.str [97, 98, 99, 100, 101, 102, 103, 104, 105, 106, 107, 108, 109, 110, 111, 112, 113, 114, 115, 116, 117, 118, 119, 120, 121, 122, 48, 49, 50, 51, 52, 53, 54, 55, 56, 57, 45, 95, 58])))]), (some (19, true))⟩, ⟨(some 22), (.bin .eql (.tmp 21) (.const (.c (.str [])))), (some (19, true))⟩, (oP 23 (.pick (.tmp 19) (.tmp 22) kF)), (mV 4 23)]
 a107_c0))⟩
theorem c107 : compFunc Tryz.prog 107 = some a107 := by kernel_rfl
def Z4s (r : Bool) : AV → Heap → Nat → Prop := fun v h' n' => v = (B r) ∧ (h' = e0) ∧ n' = 0
noncomputable def Z1s (v4 : Bool) : Option Bool :=
 some v4
theorem Z3u {mL : Int} {v4 : Bool} {o : Bool} (h : Z1s v4 = some o) :
  Sv Tryz.prog (GG mL) 0 a107_c0 (Ends a107.results 0 (Z4s o)) ⟨(upd e0 4 (some (B v4))), e0, 0⟩ := by
 unfold Z1s at h
 refine Sv.ret ?_
 exact rt0 h rfl rfl ⟨rfl, rfl, rfl⟩
/-- clerestory/dom.named -/
noncomputable def Z1t (s_ : Tx) (first_ : Tx) : Option Bool :=
 if ((!decide (s_ = [])) && (decide ((s_.length : Int) ≤ 40))) then
  (at? s_ 0).bind fun c_ =>
  (Z4q first_ (c_.toNat : Int)).bind fun r_ =>
  if decide (0 ≤ r_) then
   (Z4r s_ [97, 98, 99, 100, 101, 102, 103, 104, 105, 106, 107, 108, 109, 110, 111, 112, 113, 114, 115, 116, 117, 118, 119, 120, 121, 122, 48, 49, 50, 51, 52, 53, 54, 55, 56, 57, 45, 95, 58]).bind fun r_1 =>
   Z1s (decide (r_1 = []))
  else
   Z1s false
 else
  Z1s false
theorem Z4t {mL : Int} {s_ : Tx} {first_ : Tx} {r : Bool} (h : Z1t s_ first_ = some r) : CPure Tryz.prog (GG mL) 107 [(S s_), (S first_)] (B r) := by
 refine acalls_of_sv hmix c107 (R := Z4s r) ?_
 unfold Z1t at h
 refine ssr <| un1 rfl <| dnil <| ssr <| un1 rfl <| un1 (v := (B (!decide (s_ = [])))) rfl <| un1 rfl ?_
 refine gjoin 4 (d := 11) (v := (B ((!decide (s_ = [])) && (decide ((s_.length : Int) ≤ 40))))) (fun X hX => ?_) ?_
 ·refine split2 (fun hc1 => ?_) (fun hc1 => ?_)
  ·refine gt rfl <| a1 rfl <| gt rfl <| a1 (v := (I (s_.length : Int))) rfl <| gt rfl <| a1 (v := (B (decide ((s_.length : Int) ≤ 40)))) rfl <| un1 (v := (B (decide ((s_.length : Int) ≤ 40)))) rfl <| dnil ?_
   exact hX _ (.putEq (by rw [hc1]; rfl) (.skp (.skp (.skp (.putEq (by rw [hc1]) (.refl _)) rfl) rfl) rfl))
  ·refine gs rfl rfl <| gs rfl rfl <| gs rfl rfl <| un1 (v := (B false)) rfl <| dnil ?_
   exact hX _ (.putEq (by rw [hc1]; rfl) (.skp (.skp (.skp (.putEq (by rw [hc1]) (.refl _)) rfl) rfl) rfl))
 refine un1 rfl ?_
 refine spl h (fun h => ?_) fun h => ?_
 ·refine gt rfl <| a1 rfl <| gt rfl <| a1 rfl ?_
  obtain ⟨c_, hx1, h⟩ := bnd h
  refine gt rfl <| a1 (v := (.c (.val (.int .u8 (c_.toNat : Int))))) (s_idxS rfl rfl hx1) ?_
  obtain ⟨r_, hr1, h⟩ := bnd h
  refine gt rfl <| ac_pure (Z7x hr1) rfl rfl rfl <| gt rfl <| a1 (v := (B (decide (0 ≤ r_)))) rfl <| un1 (v := (B (decide (0 ≤ r_)))) rfl <| un1 rfl ?_
  refine spl h (fun h => ?_) fun h => ?_
  ·refine gt rfl <| a1 rfl ?_
   obtain ⟨r_1, hr2, h⟩ := bnd h
   refine gt rfl <| ac_pure (Z7y hr2) rfl rfl rfl <| gt rfl <| a1 (v := (B (decide (r_1 = [])))) rfl <| un1 (v := (B (decide (r_1 = [])))) rfl <| un1 rfl <| dnil ?_
   exact Sv.weak (wcn [] rfl (.cf rfl rfl .nil) .nil) (Z3u h)
  ·refine gs rfl rfl <| gs rfl rfl <| gs rfl rfl <| un1 (v := (B false)) rfl <| un1 rfl <| dnil ?_
   exact Sv.weak (wcn [] rfl (.cf rfl rfl .nil) .nil) (Z3u h)
 ·repeat (first | refine gu rfl ?_ | refine gs rfl rfl ?_)
  refine un1 (v := (B false)) rfl <| un1 rfl <| gs rfl rfl <| gs rfl rfl <| gs rfl rfl <| un1 (v := (B false)) rfl <| un1 rfl <| dnil ?_
  exact Sv.weak (wcn [] rfl (.cf rfl rfl .nil) .nil) (Z3u h)
def a70 : AFunc := ⟨1, [(.tmp 2)], (sr [(oP 2 (.mov kF))]
 (sr [(mV 3 0), (oP 4 (.slStr (.const (.c (.str [97, 98, 99, 100, 101, 102, 103, 104, 105, 106, 107, 108, 109, 110, 111, 112, 113, 114, 115, 116, 117, 118, 119, 120, 121, 122, 48, 49, 50, 51, 52, 53, 54, 55, 56, 57, 45, 95, 58]))) none (some (kI 26)))), (oP 5 (.call 107 [(.tmp 3), (.tmp 4)])), (mV 2 5)]
 .ret))⟩
theorem c70 : compFunc Tryz.prog 70 = some a70 := by kernel_rfl
def Z7z (r : Bool) : AV → Heap → Nat → Prop := fun v h' n' => v = (B r) ∧ (h' = e0) ∧ n' = 0
/-- clerestory/dom.Name -/
noncomputable def Z2d (s_ : Tx) : Option Bool :=
 (sub? [97, 98, 99, 100, 101, 102, 103, 104, 105, 106, 107, 108, 109, 110, 111, 112, 113, 114, 115, 116, 117, 118, 119, 120, 121, 122, 48, 49, 50, 51, 52, 53, 54, 55, 56, 57, 45, 95, 58] 0 26).bind fun r_ =>
 (Z1t s_ r_).bind fun r_1 =>
 some r_1
theorem Z80 {mL : Int} {s_ : Tx} {r : Bool} (h : Z2d s_ = some r) : CPure Tryz.prog (GG mL) 70 [(S s_)] (B r) := by
 refine acalls_of_sv hmix c70 (R := Z7z r) ?_
 unfold Z2d at h
 refine ssr <| un1 rfl <| dnil <| ssr <| un1 rfl ?_
 obtain ⟨r_, hx1, h⟩ := bnd h
 refine un1 (v := (S r_)) (s_slStr rfl rfl rfl hx1) ?_
 obtain ⟨r_1, hr1, h⟩ := bnd h
 refine un <| ac_pure (Z4t hr1) rfl rfl rfl <| un1 rfl <| dnil <| Sv.ret ?_
 exact rt0 h rfl rfl ⟨rfl, rfl, rfl⟩
def a108 : AFunc := ⟨1, [(.tmp 2)], (sr [(oP 2 (.mov kF))]
 (sr [(mV 3 0), (oP 4 (.slStr (.const (.c (.str [97, 98, 99, 100, 101, 102, 103, 104, 105, 106, 107, 108, 109, 110, 111, 112, 113, 114, 115, 116, 117, 118, 119, 120, 121, 122, 48, 49, 50, 51, 52, 53, 54, 55, 56, 57, 45, 95, 58]))) none (some (kI 26)))), (oP 5 (.bin .add (.tmp 4) (.const (.c (.str [45, 95]))))), (oP 6 (.call 107 [(.tmp 3), (.tmp 5)])), (mV 2 6)]
 .ret))⟩
theorem c108 : compFunc Tryz.prog 108 = some a108 := by kernel_rfl
def Z81 (r : Bool) : AV → Heap → Nat → Prop := fun v h' n' => v = (B r) ∧ (h' = e0) ∧ n' = 0
/-- clerestory/dom.attrName -/
noncomputable def Z2e (s_ : Tx) : Option Bool :=
 (sub? [97, 98, 99, 100, 101, 102, 103, 104, 105, 106, 107, 108, 109, 110, 111, 112, 113, 114, 115, 116, 117, 118, 119, 120, 121, 122, 48, 49, 50, 51, 52, 53, 54, 55, 56, 57, 45, 95, 58] 0 26).bind fun r_ =>
 (cat? r_ [45, 95]).bind fun r_1 =>
 (Z1t s_ r_1).bind fun r_2 =>
 some r_2
theorem Z82 {mL : Int} {s_ : Tx} {r : Bool} (h : Z2e s_ = some r) : CPure Tryz.prog (GG mL) 108 [(S s_)] (B r) := by
 refine acalls_of_sv hmix c108 (R := Z81 r) ?_
 unfold Z2e at h
 refine ssr <| un1 rfl <| dnil <| ssr <| un1 rfl ?_
 obtain ⟨r_, hx1, h⟩ := bnd h
 refine un1 (v := (S r_)) (s_slStr rfl rfl rfl hx1) ?_
 obtain ⟨r_1, hx2, h⟩ := bnd h
 refine un1 (v := (S r_1)) (s_cat rfl rfl hx2) ?_
 obtain ⟨r_2, hr1, h⟩ := bnd h
 refine un <| ac_pure (Z4t hr1) rfl rfl rfl <| un1 rfl <| dnil <| Sv.ret ?_
 exact rt0 h rfl rfl ⟨rfl, rfl, rfl⟩
def a159 : AFunc := ⟨2, [(.tmp 3)], (sr [(oP 2 (.box (.tmp 0))), (oP 3 (.mov kF))]
 (sr [(oP 4 (.faddr 0 (.tmp 2))), (oP 5 (.load false 1 (.tmp 4))), (oP 6 (.load false 1 (.tmp 1))), (oP 7 (.bin .eql (.tmp 5) (.tmp 6))), (mV 3 7)]
 .ret))⟩
theorem c159 : compFunc Tryz.prog 159 = some a159 := by kernel_rfl
def Z83 (r : Bool) : AV → Heap → Nat → Prop := fun v h' n' => v = (B r) ∧ (h' = e0) ∧ n' = 0
/-- clerestory/dom.find$1 -/
def Z1u (a_ : TAttr) (v1 : Tx) : Bool :=
 decide (a_.Name = v1)
theorem Z84 {mL : Int} (a_ : TAttr) (v1 : Tx) : CPure Tryz.prog (GG mL) 159 [(.agg (e_TAttr a_)), (.c (.rop [.str v1]))] (B (Z1u a_ v1)) := by
 generalize h : Z1u a_ v1 = o
 refine acalls_of_sv hmix c159 (R := Z83 o) ?_
 unfold Z1u at h
 refine ssr <| un <| a2v (v := (.c (.ref 0 2 0 0))) (h' := upd _ 0 (some (.cells 2 [(e_TAttr a_)]))) (n' := 1) rfl rfl hcs <| un1 rfl <| dnil <| ssr <| un1 (v := (.c (.ref 0 2 0 0))) rfl <| un1 (v := (S a_.Name)) rfl <| un1 (v := (S v1)) rfl <| un1 (v := (B (decide (a_.Name = v1)))) rfl <| un1 rfl <| dnil <| Sv.ret ?_
 subst h
 exact ⟨_, .refl _, _, rfl, ⟨upd e0 0 (some (B (decide (a_.Name = v1)))), e0, 0⟩, (B (decide (a_.Name = v1))), weak_canon [] rfl ndl nll nlz (.cf rfl rfl .nil) .nil, rfl, rfl, rfl, rfl⟩
def a104_c0 : ACode := (sr [(oP 9 (.bin .lss (.tmp 8) (.tmp 7)))]
 (.seq (.cond (.tmp 9) .skip (.exit 0))
 (.seq (.block 1 (sr [(mV 10 8), (mV 5 10)]
 (sr [(mV 11 1), (mV 12 0), (mV 13 5), (oP 14 (.iaddr 2 (.tmp 12) (.tmp 13))), (oP 15 (.load true 2 (.tmp 14))), (oP 16 (.callv (.tmp 11) [(.tmp 15)]))]
 (.cond (.tmp 16) (sr [(mV 17 5), (mV 4 17)]
 .ret) .skip))))
 (.region [(oP 18 (.bin .add (.tmp 8) (kI 1))), (mV 8 18)]))))
def a104 : AFunc := ⟨2, [(.tmp 4)], (sr [(oP 4 (.mov (kI 0)))]
 (.seq (sr [(mV 6 0), (oP 7 (.len (.tmp 6))), (oP 8 (.mov (kI 0)))]
 (.block 0 (.loop a104_c0)))
 (sr [(oP 4 (.mov (.const (.c (.val (.int .i64 (-1)))))))]
 .ret)))⟩
theorem c104 : compFunc Tryz.prog 104 = some a104 := by kernel_rfl
def Z4u (r : Int) : AV → Heap → Nat → Prop := fun v h' n' => v = (I r) ∧ (h' = e0) ∧ n' = 0
abbrev Z85 (F_ : Unit → Option Int) (o : Int) (R_ : St → Prop) : Prop := ∀ (_ : Unit), F_ () = some o → ∀ s, Weak 0 s ⟨e0, e0, 0⟩ → R_ s
abbrev Z4v (s_ : (List TAttr)) (fc : Tx) (F_ : Nat → Int → Option Int) (o : Int) : Nat → St → Prop := fun k s => ∃ (v8 : Int), F_ k v8 = some o ∧ s = ⟨(ue [(8, (I v8)), (7, (I (s_.length : Int))), (1, (.c (.fn (.func 159) [] [.rop [.str fc]]))), (0, (.c (.ro false 2 (s_.map e_TAttr))))]), e0, 0⟩
abbrev Z86 (s_ : (List TAttr)) (fc : Tx) (F_ : Int → Option Int) (o : Int) (R_ : St → Prop) : Prop := ∀ (v8 : Int), F_ v8 = some o → ∀ s, Weak 0 s ⟨(ue [(8, (I v8)), (7, (I (s_.length : Int))), (1, (.c (.fn (.func 159) [] [.rop [.str fc]]))), (0, (.c (.ro false 2 (s_.map e_TAttr))))]), e0, 0⟩ → R_ s
noncomputable def Zh (s_ : (List TAttr)) (fc : Tx) (K0_ : Unit → Option Int) : Nat → Int → Option Int
 | 0, _ => none
 | k + 1, v8 =>
  if decide (v8 < (s_.length : Int)) then
   (at? s_ v8).bind fun x_ =>
   if (Z1u x_ fc) then
    some v8
   else
    (Zh s_ fc K0_ k) (wi (v8 + 1))
  else
   K0_ ()
theorem Z87 {mL : Int} {Q : AExit → St → Prop} {s_ : (List TAttr)} {fc : Tx} {K0_ : Unit → Option Int} {k : Nat} {v8 : Int} {o : Int} (h : Zh s_ fc K0_ k v8 = some o)
  (hK0 : Z85 K0_ o (Q (.exit 0)))
  (hr : ∀ s, Ends a104.results 0 (Z4u o) .ret s → Q .ret s) :
  Sv Tryz.prog (GG mL) 0 (.loop a104_c0) Q ⟨(ue [(8, (I v8)), (7, (I (s_.length : Int))), (1, (.c (.fn (.func 159) [] [.rop [.str fc]]))), (0, (.c (.ro false 2 (s_.map e_TAttr))))]), e0, 0⟩ := by
 refine Sv.loop (I := Z4v s_ fc (Zh s_ fc K0_) o) (fun k s hI => ?_) ⟨v8, h, rfl⟩
 clear h
 clear v8
 obtain ⟨v8, h, rfl⟩ := hI
 cases k with
 | zero => cases h
 | succ k =>
 rw [Zh] at h
 have hself : Z86 s_ fc (Zh s_ fc K0_ k) o (rnd 0 (Z4v s_ fc (Zh s_ fc K0_) o) k Q) := fun v8 h s hw => ⟨_, k, hw, Nat.lt_succ_self k, v8, h, rfl⟩
 refine ssr <| un1 (v := (B (decide (v8 < (s_.length : Int))))) rfl <| dnil <| Sv.seq ?_
 refine Sv.cnd rfl h (fun h => ?_) fun h => ?_
 ·refine Sv.skip <| Sv.seq <| Sv.block <| ssr <| un1 rfl <| un1 rfl <| dnil <| ssr <| un1 rfl <| un1 rfl <| un1 rfl ?_
  obtain ⟨x_, hx1, h⟩ := bnd h
  refine un1 (v := (.c (.rop (e_TAttr x_)))) (s_iaddr (e := e_TAttr) (xs := s_) rfl rfl hx1) <| un1 (v := (.agg (e_TAttr x_))) rfl <| un <| acv_gen (bs := []) («as» := [(.agg (e_TAttr x_)), (.c (.rop [.str fc]))]) (h2 := _) (h1 := e0) rfl (by kernel_rfl) (Z84 (mL := mL) x_ fc) rfl (.cons (avAs_free rfl) (.cons (avAs_free rfl) .nil)) (hsub_refl _) (.nil _) (fun _ => rfl) (by decide) (by decide) (.cons (avAs_free rfl) (.cons (avAs_free rfl) .nil)) .nil ?_
  rintro _ _ _ hn ⟨rfl, rfl, rfl⟩
  refine ⟨.inl rfl, (rem [] _), fun hbd => (m3_rem (in_nil _) (.nil) hbd), (B (Z1u x_ fc)), 0, rfl, rfl, ?_⟩
  refine dnil ?_
  refine Sv.cnd rfl h (fun h => ?_) fun h => ?_
  ·refine ssr <| un1 rfl <| un1 rfl <| dnil <| Sv.ret ?_
   exact hr _ (rt0 h rfl rfl ⟨rfl, rfl, rfl⟩)
  ·refine Sv.skip <| srg <| un1 (v := (I (wi (v8 + 1)))) rfl <| un1 rfl <| dnil ?_
   exact hself (wi (v8 + 1)) h _ (wcn [] rfl (.cf rfl rfl (.cf rfl rfl (.cons rfl (.c (fn_as .nil (.sm rfl .nil))) (.cf rfl rfl .nil)))) .nil)
 ·refine Sv.exit ?_
  exact hK0 () h _ (wcn [] rfl .nil .nil)
/-- slices.IndexFunc(()clerestory/api.Attr,clerestory/api.Attr) -/
noncomputable def Z30 (s_ : (List TAttr)) (fc : Tx) : Option Int :=
 lim fun kk => Zh s_ fc (fun (_ : Unit) => 
   some (-1)) kk 0
theorem Z88 {mL : Int} {s_ : (List TAttr)} {fc : Tx} {r : Int} (h : Z30 s_ fc = some r) : CPure Tryz.prog (GG mL) 104 [(.c (.ro false 2 (s_.map e_TAttr))), (.c (.fn (.func 159) [] [.rop [.str fc]]))] (I r) := by
 refine acalls_of_sv hmix c104 (R := Z4u r) ?_
 unfold Z30 at h
 refine ssr <| un1 rfl <| dnil <| Sv.seq <| ssr <| un1 rfl <| un1 (v := (I (s_.length : Int))) (s_len (e := e_TAttr) (xs := s_) rfl) <| un1 rfl <| dnil <| Sv.block ?_
 obtain ⟨kk, h⟩ := lim_some h
 refine Sv.weak (wcn [] rfl (.cf rfl rfl (.cf rfl rfl (.cons rfl (.c (fn_as .nil (.sm rfl .nil))) (.cf rfl rfl .nil)))) .nil) (Z87 h ?_ (fun s hs => hs))
 ·intro _ h _ hw1
  refine Sv.weak hw1 <| ssr <| un1 rfl <| dnil <| Sv.ret ?_
  exact rt0 h rfl rfl ⟨rfl, rfl, rfl⟩
def a109 : AFunc := ⟨2, [(.tmp 4)], (sr [(oP 3 (.box (.tmp 1))), (oP 4 (.mov (kI 0)))]
 (sr [(mV 5 0), (oP 6 (.mkfn (.func 159) [] [(.tmp 3)])), (oP 7 (.call 104 [(.tmp 5), (.tmp 6)])), (mV 4 7)]
 .ret))⟩
theorem c109 : compFunc Tryz.prog 109 = some a109 := by kernel_rfl
def Z89 (r : Int) : AV → Heap → Nat → Prop := fun v h' n' => v = (I r) ∧ (h' = e0) ∧ n' = 0
/-- clerestory/dom.find -/
noncomputable def Z2f (l_ : (List TAttr)) (name : Tx) : Option Int :=
 (Z30 l_ name).bind fun r_ =>
 some r_
theorem Z8a {mL : Int} {l_ : (List TAttr)} {name : Tx} {r : Int} (h : Z2f l_ name = some r) : CPure Tryz.prog (GG mL) 109 [(.c (.ro false 2 (l_.map e_TAttr))), (S name)] (I r) := by
 refine acalls_of_sv hmix c109 (R := Z89 r) ?_
 unfold Z2f at h
 refine ssr <| un <| a2v (v := (.c (.ref 0 1 0 0))) (h' := upd _ 0 (some (.cells 1 [[.str name]]))) (n' := 1) rfl rfl hcs <| un1 rfl <| dnil <| ssr <| un1 rfl <| un1 (v := (.c (.fn (.func 159) [] [.ref 0 1 0 0]))) rfl ?_
 obtain ⟨r_, hr1, h⟩ := bnd h
 refine un <| ac_gen (bs := []) («as» := [(.c (.ro false 2 (l_.map e_TAttr))), (.c (.fn (.func 159) [] [.rop [.str name]]))]) (h2 := (upd _ 0 none)) (h1 := e0) (Z88 hr1) rfl (.cons (avAs_free rfl) (.cons (.c (fn_as .nil (.cons (ref_ro rfl (gone rfl) (.sm rfl .nil) rfl) .nil))) .nil)) (hsub_none (hsub_refl _)) (.nil _) (fun _ => rfl) (by decide) (by decide) (.cons (avAs_free rfl) (.cons (.c (fn_as .nil (.sm rfl .nil))) .nil)) .nil ?_
 rintro _ _ _ hn ⟨rfl, rfl, rfl⟩
 refine ⟨.inr ⟨rfl, .nil⟩, (rem [] _), fun hbd => (m3_rem (in_nil _) (.nil) hbd), (I r_), 1, rfl, rfl, ?_⟩
 refine un1 rfl <| dnil <| Sv.ret ?_
 exact rt0 h rfl rfl ⟨rfl, rfl, rfl⟩
def a71_c0 : ACode := (sr [(oP 11 (.bin .lss (.tmp 10) (.tmp 9)))]
 (.seq (.cond (.tmp 11) .skip (.exit 0))
 (.seq (.block 1 (sr [(mV 12 10), (oP 13 (.iaddr 2 (.tmp 8) (.tmp 10))), (oP 14 (.load true 2 (.tmp 13))), (oP 4 (.box (.const (.agg [(.str []), (.str [])])))), (mV 3 12), (oN (.store 2 (.tmp 4) (.tmp 14)))]
 (.block 2 (sr [(oP 16 (.faddr 0 (.tmp 4))), (oP 17 (.load false 1 (.tmp 16))), (oP 18 (.call 108 [(.tmp 17)])), (oP 19 (.un .not (.tmp 18))), (mV 15 19)]
 (.cond (.tmp 15) (sr [(oP 2 (.mov (kI 3)))]
 .ret) (sr [(oP 21 (.faddr 1 (.tmp 4))), (oP 22 (.load false 1 (.tmp 21))), (oP 23 (.lenS (.tmp 22))), (oP 24 (.bin .gtr (.tmp 23) (kI 400))), (mV 20 24)]
 (.cond (.tmp 20) (sr [(oP 2 (.mov (kI 2)))]
 .ret) (.seq (.drawn (.fin [((mV 26 0), (0, 0)), ((mV 27 3), (0, 1)), ((oP 28 (.slSl 2 (.tmp 26) none (some (.tmp 27)) none)), (0, 2)), ((oP 29 (.faddr 0 (.tmp 4))), (0, 3)), ((oP 30 (.load false 1 (.tmp 29))), (0, 4)), ((oP 31 (.call 109 [(.tmp 28), (.tmp 30)])), (2, 5)), ((oP 32 (.bin .geq (.tmp 31) (kI 0))), (0, 6)), ((mV 25 32), (0, 7))]))
 (.cond (.tmp 25) (sr [(oP 2 (.mov (kI 3)))]
 .ret) .skip)))))))))
 (.region [(oP 33 (.bin .add (.tmp 10) (kI 1))), (mV 10 33)]))))
def a71 : AFunc := ⟨1, [(.tmp 2)], (sr [(oP 2 (.mov (kI 0)))]
 (.seq (sr [(mV 5 0), (oP 6 (.len (.tmp 5))), (oP 7 (.bin .gtr (.tmp 6) (kI 12)))]
 (.cond (.tmp 7) (sr [(oP 2 (.mov (kI 2)))]
 .ret) .skip))
 (.seq (sr [(mV 8 0), (oP 9 (.len (.tmp 8))), (oP 10 (.mov (kI 0)))]
 (.block 0 (.loop a71_c0)))
 (sr [(oP 2 (.mov (kI 0)))]
 .ret))))⟩
theorem c71 : compFunc Tryz.prog 71 = some a71 := by kernel_rfl
def Z4w (r : Int) : AV → Heap → Nat → Prop := fun v h' n' => v = (I r) ∧ (h' = e0) ∧ n' = 0
abbrev Z8b (F_ : Unit → Option Int) (o : Int) (R_ : St → Prop) : Prop := ∀ (_ : Unit), F_ () = some o → ∀ s, Weak 0 s ⟨e0, e0, 0⟩ → R_ s
abbrev Z4x (l_ : (List TAttr)) (F_ : Nat → Int → Option Int) (o : Int) : Nat → St → Prop := fun k s => ∃ (v10 : Int), F_ k v10 = some o ∧ s = ⟨(ue [(10, (I v10)), (9, (I (l_.length : Int))), (8, (.c (.ro false 2 (l_.map e_TAttr)))), (0, (.c (.ro false 2 (l_.map e_TAttr))))]), e0, 0⟩
abbrev Z8c (l_ : (List TAttr)) (F_ : Int → Option Int) (o : Int) (R_ : St → Prop) : Prop := ∀ (v10 : Int), F_ v10 = some o → ∀ s, Weak 0 s ⟨(ue [(10, (I v10)), (9, (I (l_.length : Int))), (8, (.c (.ro false 2 (l_.map e_TAttr)))), (0, (.c (.ro false 2 (l_.map e_TAttr))))]), e0, 0⟩ → R_ s
noncomputable def Z4 (l_ : (List TAttr)) (K0_ : Unit → Option Int) : Nat → Int → Option Int
 | 0, _ => none
 | k + 1, v10 =>
  if decide (v10 < (l_.length : Int)) then
   (at? l_ v10).bind fun x_ =>
   (Z2e x_.Name).bind fun r_ =>
   if (!r_) then
    some 3
   else
    if decide (400 < (x_.Value.length : Int)) then
     some 2
    else
     (sub? l_ 0 v10).bind fun r_1 =>
     (Z2f r_1 x_.Name).bind fun r_2 =>
     if decide (0 ≤ r_2) then
      some 3
     else
      (Z4 l_ K0_ k) (wi (v10 + 1))
  else
   K0_ ()
theorem Z8d {mL : Int} {Q : AExit → St → Prop} {l_ : (List TAttr)} {K0_ : Unit → Option Int} {k : Nat} {v10 : Int} {o : Int} (h : Z4 l_ K0_ k v10 = some o)
  (hK0 : Z8b K0_ o (Q (.exit 0)))
  (hr : ∀ s, Ends a71.results 0 (Z4w o) .ret s → Q .ret s) :
  Sv Tryz.prog (GG mL) 0 (.loop a71_c0) Q ⟨(ue [(10, (I v10)), (9, (I (l_.length : Int))), (8, (.c (.ro false 2 (l_.map e_TAttr)))), (0, (.c (.ro false 2 (l_.map e_TAttr))))]), e0, 0⟩ := by
 refine Sv.loop (I := Z4x l_ (Z4 l_ K0_) o) (fun k s hI => ?_) ⟨v10, h, rfl⟩
 clear h
 clear v10
 obtain ⟨v10, h, rfl⟩ := hI
 cases k with
 | zero => cases h
 | succ k =>
 rw [Z4] at h
 have hself : Z8c l_ (Z4 l_ K0_ k) o (rnd 0 (Z4x l_ (Z4 l_ K0_) o) k Q) := fun v10 h s hw => ⟨_, k, hw, Nat.lt_succ_self k, v10, h, rfl⟩
 refine ssr <| un1 (v := (B (decide (v10 < (l_.length : Int))))) rfl <| dnil <| Sv.seq ?_
 refine Sv.cnd rfl h (fun h => ?_) fun h => ?_
 ·refine Sv.skip <| Sv.seq <| Sv.block <| ssr <| un1 rfl ?_
  obtain ⟨x_, hx1, h⟩ := bnd h
  refine un1 (v := (.c (.rop (e_TAttr x_)))) (s_iaddr (e := e_TAttr) (xs := l_) rfl rfl hx1) <| un1 (v := (.agg (e_TAttr x_))) rfl <| un <| a2v (v := (.c (.ref 0 2 0 0))) (h' := upd _ 0 (some (.cells 2 [[.str [], .str []]]))) (n' := 1) rfl rfl hcs <| un1 rfl <| un <| a2n (h' := upd _ 0 (some (.cells 2 [(e_TAttr x_)]))) (n' := 1) rfl rfl hcs <| dnil <| Sv.block <| ssr <| un1 (v := (.c (.ref 0 2 0 0))) rfl <| un1 (v := (S x_.Name)) rfl ?_
  obtain ⟨r_, hr1, h⟩ := bnd h
  refine un <| ac_pure (Z82 hr1) rfl rfl rfl <| un1 (v := (B (!r_))) rfl <| un1 rfl <| dnil ?_
  refine Sv.cnd rfl h (fun h => ?_) fun h => ?_
  ·refine ssr <| un1 rfl <| dnil <| Sv.ret ?_
   exact hr _ (rt0 h rfl rfl ⟨rfl, rfl, rfl⟩)
  ·refine ssr <| un1 (v := (.c (.ref 0 2 0 1))) rfl <| un1 (v := (S x_.Value)) rfl <| un1 (v := (I (x_.Value.length : Int))) rfl <| un1 (v := (B (decide (400 < (x_.Value.length : Int))))) rfl <| un1 rfl <| dnil ?_
   refine Sv.cnd rfl h (fun h => ?_) fun h => ?_
   ·refine ssr <| un1 rfl <| dnil <| Sv.ret ?_
    exact hr _ (rt0 h rfl rfl ⟨rfl, rfl, rfl⟩)
   ·refine Sv.seq <| Sv.drawn <| un1 rfl <| un1 rfl ?_
    obtain ⟨r_1, hx2, h⟩ := bnd h
    refine un1 (v := (.c (.ro false 2 (r_1.map e_TAttr)))) (s_slSl (e := e_TAttr) rfl rfl rfl hx2) <| un1 (v := (.c (.ref 0 2 0 0))) rfl <| un1 (v := (S x_.Name)) rfl ?_
    obtain ⟨r_2, hr2, h⟩ := bnd h
    refine un <| ac_pure (Z8a hr2) rfl rfl rfl <| un1 (v := (B (decide (0 ≤ r_2)))) rfl <| un1 rfl <| dnil ?_
    refine Sv.cnd rfl h (fun h => ?_) fun h => ?_
    ·refine ssr <| un1 rfl <| dnil <| Sv.ret ?_
     exact hr _ (rt0 h rfl rfl ⟨rfl, rfl, rfl⟩)
    ·refine Sv.skip <| srg <| un1 (v := (I (wi (v10 + 1)))) rfl <| un1 rfl <| dnil ?_
     exact hself (wi (v10 + 1)) h _ (wcn [] rfl (.cf rfl rfl (.cf rfl rfl (.cf rfl rfl (.cf rfl rfl .nil)))) .nil)
 ·refine Sv.exit ?_
  exact hK0 () h _ (wcn [] rfl .nil .nil)
/-- clerestory/dom.attrs -/
noncomputable def Zl (l_ : (List TAttr)) : Option Int :=
 if decide (12 < (l_.length : Int)) then
  some 2
 else
  lim fun kk => Z4 l_ (fun (_ : Unit) => 
    some 0) kk 0
theorem Z8e {mL : Int} {l_ : (List TAttr)} {r : Int} (h : Zl l_ = some r) : CPure Tryz.prog (GG mL) 71 [(.c (.ro false 2 (l_.map e_TAttr)))] (I r) := by
 refine acalls_of_sv hmix c71 (R := Z4w r) ?_
 unfold Zl at h
 refine ssr <| un1 rfl <| dnil <| Sv.seq <| ssr <| un1 rfl <| un1 (v := (I (l_.length : Int))) (s_len (e := e_TAttr) (xs := l_) rfl) <| un1 (v := (B (decide (12 < (l_.length : Int))))) rfl <| dnil ?_
 refine Sv.cnd rfl h (fun h => ?_) fun h => ?_
 ·refine ssr <| un1 rfl <| dnil <| Sv.ret ?_
  exact rt0 h rfl rfl ⟨rfl, rfl, rfl⟩
 ·refine Sv.skip <| Sv.seq <| ssr <| un1 rfl <| un1 (v := (I (l_.length : Int))) (s_len (e := e_TAttr) (xs := l_) rfl) <| un1 rfl <| dnil <| Sv.block ?_
  obtain ⟨kk, h⟩ := lim_some h
  refine Sv.weak (wcn [] rfl (.cf rfl rfl (.cf rfl rfl (.cf rfl rfl (.cf rfl rfl .nil)))) .nil) (Z8d h ?_ (fun s hs => hs))
  ·intro _ h _ hw1
   refine Sv.weak hw1 <| ssr <| un1 rfl <| dnil <| Sv.ret ?_
   exact rt0 h rfl rfl ⟨rfl, rfl, rfl⟩
def a37_c0 : ACode := (.cond (.tmp 18) (sr [(oP 2 (.mov (kI 3)))]
 .ret) .skip)
def a37_c1 : ACode := (.seq (sr [(oP 28 (.faddr 2 (.tmp 1))), (oP 29 (.load false 1 (.tmp 28))), (oP 30 (.call 71 [(.tmp 29)])), (mV 3 30)]
 (sr [(mV 31 3), (oP 32 (.bin .neq (.tmp 31) (kI 0)))]
 (.cond (.tmp 32) (sr [(mV 33 3), (mV 2 33)]
 .ret) .skip)))
 (.seq (sr [(oP 34 (.faddr 3 (.tmp 1))), (oP 35 (.load false 1 (.tmp 34))), (oP 36 (.lenS (.tmp 35))), (oP 37 (.bin .gtr (.tmp 36) (kI 400))), (mV 38 37), ⟨(some 39), (.faddr 1 (.tmp 1)), (some (38, false))⟩, ⟨(some 40), (.load false 1 (.tmp 39)), (some (38, false))⟩, ⟨(some 41), (.lenS (.tmp 40)), (some (38, false))⟩, ⟨(some 42), (.bin .gtr (.tmp 41) (kI 400)), (some (38, false))⟩, (oP 43 (.pick (.tmp 38) kT (.tmp 42)))]
 (.cond (.tmp 43) (sr [(oP 2 (.mov (kI 2)))]
 .ret) .skip))
 (sr [(oP 2 (.mov (kI 0)))]
 .ret)))
def a37 : AFunc := ⟨1, [(.tmp 2)], (sr [(oP 1 (.box (.tmp 0))), (oP 2 (.mov (kI 0)))]
 (.seq (.block 0 (sr [(oP 5 (.faddr 0 (.tmp 1))), (oP 6 (.load false 1 (.tmp 5))), (oP 7 (.bin .lss (.tmp 6) (kI 1))), (mV 8 7), ⟨(some 9), (.faddr 0 (.tmp 1)), (some (8, false))⟩, ⟨(some 10), (.load false 1 (.tmp 9)), (some (8, false))⟩, ⟨(some 11), (.bin .gtr (.tmp 10) (kI 5)), (some (8, false))⟩, (oP 12 (.pick (.tmp 8) kT (.tmp 11))), (mV 13 12), ⟨(some 14), (.load true 6 (.tmp 1)), (some (13, false))⟩, ⟨(some 15), (.call 69 [(.tmp 14)]), (some (13, false))⟩, ⟨(some 16), (.un .not (.tmp 15)), (some (13, false))⟩, (oP 17 (.pick (.tmp 13) kT (.tmp 16))), (mV 4 17)]
 (.cond (.tmp 4) (sr [(oP 2 (.mov (kI 7)))]
 .ret) (sr [(oP 19 (.faddr 0 (.tmp 1))), (oP 20 (.load false 1 (.tmp 19))), (oP 21 (.bin .eql (.tmp 20) (kI 2))), (mV 22 21), ⟨(some 23), (.faddr 1 (.tmp 1)), (some (22, true))⟩, ⟨(some 24), (.load false 1 (.tmp 23)), (some (22, true))⟩, ⟨(some 25), (.call 70 [(.tmp 24)]), (some (22, true))⟩, ⟨(some 26), (.un .not (.tmp 25)), (some (22, true))⟩, (oP 27 (.pick (.tmp 22) (.tmp 26) kF)), (mV 18 27)]
 a37_c0))))
 a37_c1))⟩
theorem c37 : compFunc Tryz.prog 37 = some a37 := by kernel_rfl
def Z3v (r : Int) : AV → Heap → Nat → Prop := fun v h' n' => v = (I r) ∧ (h' = e0) ∧ n' = 0
abbrev Z8f (mL : Int) (o : Int) : AExit → St → Prop := AThen (Sv Tryz.prog (GG mL) 0 a37_c1 (Ends a37.results 0 (Z3v o))) (Ends a37.results 0 (Z3v o))
abbrev Z8g (mL : Int) (o : Int) : AExit → St → Prop := ABlock 0 (Z8f mL o)
noncomputable def Zr (x_ : TNode) (v18 : Bool) : Option Int :=
 if v18 then
  some 3
 else
  (Zl x_.Attrs).bind fun r_ =>
  if (!decide (r_ = 0)) then
   some r_
  else
   if ((decide (400 < (x_.Text.length : Int))) || (decide (400 < (x_.Name.length : Int)))) then
    some 2
   else
    some 0
theorem Z4y {mL : Int} {x_ : TNode} {v18 : Bool} {o : Int} (h : Zr x_ v18 = some o) :
  Sv Tryz.prog (GG mL) 0 a37_c0 (Z8g mL o) ⟨(ue [(18, (B v18)), (1, (.c (.ref 0 6 0 0)))]), (upd e0 0 (some (.cells 6 [(e_TNode x_)]))), 1⟩ := by
 unfold Zr at h
 refine Sv.cnd rfl h (fun h => ?_) fun h => ?_
 ·refine ssr <| un1 rfl <| dnil <| Sv.ret ?_
  exact rt0 h rfl rfl ⟨rfl, rfl, rfl⟩
 ·refine Sv.skip <| Sv.seq <| ssr <| un1 (v := (.c (.ref 0 6 0 2))) rfl <| un1 (v := (.c (.ro false 2 (x_.Attrs.map e_TAttr)))) rfl ?_
  obtain ⟨r_, hr1, h⟩ := bnd h
  refine un <| ac_pure (Z8e hr1) rfl rfl rfl <| un1 rfl <| dnil <| ssr <| un1 rfl <| un1 (v := (B (!decide (r_ = 0)))) rfl <| dnil ?_
  refine Sv.cnd rfl h (fun h => ?_) fun h => ?_
  ·refine ssr <| un1 rfl <| un1 rfl <| dnil <| Sv.ret ?_
   exact rt0 h rfl rfl ⟨rfl, rfl, rfl⟩
  ·refine Sv.skip <| Sv.seq <| ssr <| un1 (v := (.c (.ref 0 6 0 3))) rfl <| un1 (v := (S x_.Text)) rfl <| un1 (v := (I (x_.Text.length : Int))) rfl <| un1 (v := (B (decide (400 < (x_.Text.length : Int))))) rfl <| un1 rfl ?_
   refine gjoin 5 (d := 43) (v := (B ((decide (400 < (x_.Text.length : Int))) || (decide (400 < (x_.Name.length : Int)))))) (fun X hX => ?_) ?_
   ·refine split2 (fun hc6 => ?_) (fun hc6 => ?_)
    ·refine gs rfl rfl <| gs rfl rfl <| gs rfl rfl <| gs rfl rfl <| un1 (v := (B true)) rfl <| dnil ?_
     exact hX _ (.putEq (by rw [hc6]; rfl) (.skp (.skp (.skp (.skp (.putEq (by rw [hc6]) (.refl _)) rfl) rfl) rfl) rfl))
    ·refine gt rfl <| a1 (v := (.c (.ref 0 6 0 1))) rfl <| gt rfl <| a1 (v := (S x_.Name)) rfl <| gt rfl <| a1 (v := (I (x_.Name.length : Int))) rfl <| gt rfl <| a1 (v := (B (decide (400 < (x_.Name.length : Int))))) rfl <| un1 (v := (B (decide (400 < (x_.Name.length : Int))))) rfl <| dnil ?_
     exact hX _ (.putEq (by rw [hc6]; rfl) (.skp (.skp (.skp (.skp (.putEq (by rw [hc6]) (.refl _)) rfl) rfl) rfl) rfl))
   refine dnil ?_
   refine Sv.cnd rfl h (fun h => ?_) fun h => ?_
   ·refine ssr <| un1 rfl <| dnil <| Sv.ret ?_
    exact rt0 h rfl rfl ⟨rfl, rfl, rfl⟩
   ·refine Sv.skip <| ssr <| un1 rfl <| dnil <| Sv.ret ?_
    exact rt0 h rfl rfl ⟨rfl, rfl, rfl⟩
/-- clerestory/dom.one -/
noncomputable def Ze (x_ : TNode) : Option Int :=
 if (((decide (x_.Kind < 1)) || (decide (5 < x_.Kind))) || (!(Z19 x_))) then
  some 7
 else
  if decide (x_.Kind = 2) then
   (Z2d x_.Name).bind fun r_1 =>
   Zr x_ (!r_1)
  else
   Zr x_ false
theorem Z8h {mL : Int} {x_ : TNode} {r : Int} (h : Ze x_ = some r) : CPure Tryz.prog (GG mL) 37 [(.agg (e_TNode x_))] (I r) := by
 refine acalls_of_sv hmix c37 (R := Z3v r) ?_
 unfold Ze at h
 refine ssr <| un <| a2v (v := (.c (.ref 0 6 0 0))) (h' := upd _ 0 (some (.cells 6 [(e_TNode x_)]))) (n' := 1) rfl rfl hcs <| un1 rfl <| dnil <| Sv.seq <| Sv.block <| ssr <| un1 (v := (.c (.ref 0 6 0 0))) rfl <| un1 (v := (I x_.Kind)) rfl <| un1 (v := (B (decide (x_.Kind < 1)))) rfl <| un1 rfl ?_
 refine gjoin 4 (d := 12) (v := (B ((decide (x_.Kind < 1)) || (decide (5 < x_.Kind))))) (fun X hX => ?_) ?_
 ·refine split2 (fun hc1 => ?_) (fun hc1 => ?_)
  ·refine gs rfl rfl <| gs rfl rfl <| gs rfl rfl <| un1 (v := (B true)) rfl <| dnil ?_
   exact hX _ (.putEq (by rw [hc1]; rfl) (.skp (.skp (.skp (.putEq (by rw [hc1]) (.refl _)) rfl) rfl) rfl))
  ·refine gt rfl <| a1 (v := (.c (.ref 0 6 0 0))) rfl <| gt rfl <| a1 (v := (I x_.Kind)) rfl <| gt rfl <| a1 (v := (B (decide (5 < x_.Kind)))) rfl <| un1 (v := (B (decide (5 < x_.Kind)))) rfl <| dnil ?_
   exact hX _ (.putEq (by rw [hc1]; rfl) (.skp (.skp (.skp (.putEq (by rw [hc1]) (.refl _)) rfl) rfl) rfl))
 refine un1 rfl ?_
 refine gjoin 4 (d := 17) (v := (B (((decide (x_.Kind < 1)) || (decide (5 < x_.Kind))) || (!(Z19 x_))))) (fun X hX => ?_) ?_
 ·refine split2 (fun hc2 => ?_) (fun hc2 => ?_)
  ·refine gs rfl rfl <| gs rfl rfl <| gs rfl rfl <| un1 (v := (B true)) rfl <| dnil ?_
   exact hX _ (.putEq (by rw [hc2]; rfl) (.skp (.skp (.skp (.putEq (by rw [hc2]) (.refl _)) rfl) rfl) rfl))
  ·refine gt rfl <| a1 (v := (.agg (e_TNode x_))) rfl <| gt rfl <| ac_pure (Z7w (mL := mL) x_) rfl rfl rfl <| gt rfl <| a1 (v := (B (!(Z19 x_)))) rfl <| un1 (v := (B (!(Z19 x_)))) rfl <| dnil ?_
   exact hX _ (.putEq (by rw [hc2]; rfl) (.skp (.skp (.skp (.putEq (by rw [hc2]) (.refl _)) rfl) rfl) rfl))
 refine un1 rfl <| dnil ?_
 refine Sv.cnd rfl h (fun h => ?_) fun h => ?_
 ·refine ssr <| un1 rfl <| dnil <| Sv.ret ?_
  exact rt0 h rfl rfl ⟨rfl, rfl, rfl⟩
 ·refine ssr <| un1 (v := (.c (.ref 0 6 0 0))) rfl <| un1 (v := (I x_.Kind)) rfl <| un1 (v := (B (decide (x_.Kind = 2)))) rfl <| un1 rfl ?_
  refine spl h (fun h => ?_) fun h => ?_
  ·refine gt rfl <| a1 (v := (.c (.ref 0 6 0 1))) rfl <| gt rfl <| a1 (v := (S x_.Name)) rfl ?_
   obtain ⟨r_1, hr2, h⟩ := bnd h
   refine gt rfl <| ac_pure (Z80 hr2) rfl rfl rfl <| gt rfl <| a1 (v := (B (!r_1))) rfl <| un1 (v := (B (!r_1))) rfl <| un1 rfl <| dnil ?_
   exact Sv.weak (wcn [0] rfl (.cf rfl rfl (.cr rfl rfl rfl .nil)) (.box (by decide) rfl (blkAs_cells (.sm rfl (.sm rfl (.sm rfl (.sm rfl (.sm rfl (.sm rfl .nil))))))) .nil)) (Z4y h)
  ·refine gs rfl rfl <| gs rfl rfl <| gs rfl rfl <| gs rfl rfl <| un1 (v := (B false)) rfl <| un1 rfl <| dnil ?_
   exact Sv.weak (wcn [0] rfl (.cf rfl rfl (.cr rfl rfl rfl .nil)) (.box (by decide) rfl (blkAs_cells (.sm rfl (.sm rfl (.sm rfl (.sm rfl (.sm rfl (.sm rfl .nil))))))) .nil)) (Z4y h)
def a38_c1 : ACode := (.cond (.tmp 54) (sr [(oP 2 (.mov (kI 7)))]
 .ret) .skip)
def a38_c0 : ACode := (.cond (.tmp 29) (sr [(oP 2 (.mov (kI 3)))]
 .ret) (sr [(mV 55 4), (oP 56 (.bin .eql (.tmp 55) (kI 0))), (mV 57 56), ⟨(some 58), (.faddr 0 (.tmp 1)), (some (57, true))⟩, ⟨(some 59), (.load false 1 (.tmp 58)), (some (57, true))⟩, ⟨(some 60), (.mov (.tmp 7)), (some (57, true))⟩, ⟨(some 61), (.iaddr 6 (.tmp 59) (.tmp 60)), (some (57, true))⟩, ⟨(some 62), (.faddr 0 (.tmp 61)), (some (57, true))⟩, ⟨(some 63), (.load false 1 (.tmp 62)), (some (57, true))⟩, ⟨(some 64), (.bin .eql (.tmp 63) (kI 3)), (some (57, true))⟩, (oP 65 (.pick (.tmp 57) (.tmp 64) kF)), (mV 54 65)]
 a38_c1))
def a38_c3 : ACode := (.region [(mV 66 3), (mV 67 7), (oP 68 (.iaddr 1 (.tmp 66) (.tmp 67))), (oN (.store 1 (.tmp 68) kT))])
def a38_c2 : ACode := (.region [(oP 69 (.bin .add (.tmp 25) (kI 1))), (mV 25 69)])
def a38_c4 : ACode := (sr [(oP 26 (.bin .lss (.tmp 25) (.tmp 24)))]
 (.seq (.cond (.tmp 26) .skip (.exit 2))
 (.seq (.block 3 (sr [(oP 27 (.iaddr 1 (.tmp 23) (.tmp 25))), (oP 28 (.load false 1 (.tmp 27))), (mV 7 28)]
 (.seq (.block 4 (sr [(mV 30 7), (oP 31 (.bin .lss (.tmp 30) (kI 0))), (mV 32 31), ⟨(some 33), (.mov (.tmp 7)), (some (32, false))⟩, ⟨(some 34), (.mov (.tmp 3)), (some (32, false))⟩, ⟨(some 35), (.len (.tmp 34)), (some (32, false))⟩, ⟨(some 36), (.bin .geq (.tmp 33) (.tmp 35)), (some (32, false))⟩, (oP 37 (.pick (.tmp 32) kT (.tmp 36))), (mV 38 37), ⟨(some 39), (.faddr 0 (.tmp 1)), (some (38, false))⟩, ⟨(some 40), (.load false 1 (.tmp 39)), (some (38, false))⟩, ⟨(some 41), (.mov (.tmp 7)), (some (38, false))⟩, ⟨(some 42), (.iaddr 6 (.tmp 40) (.tmp 41)), (some (38, false))⟩, ⟨(some 43), (.faddr 4 (.tmp 42)), (some (38, false))⟩, ⟨(some 44), (.load false 1 (.tmp 43)), (some (38, false))⟩, ⟨(some 45), (.mov (.tmp 4)), (some (38, false))⟩, ⟨(some 46), (.bin .neq (.tmp 44) (.tmp 45)), (some (38, false))⟩, (oP 47 (.pick (.tmp 38) kT (.tmp 46))), (mV 48 47), ⟨(some 49), (.mov (.tmp 3)), (some (48, false))⟩, ⟨(some 50), (.mov (.tmp 7)), (some (48, false))⟩, ⟨(some 51), (.iaddr 1 (.tmp 49) (.tmp 50)), (some (48, false))⟩, ⟨(some 52), (.load false 1 (.tmp 51)), (some (48, false))⟩, (oP 53 (.pick (.tmp 48) kT (.tmp 52))), (mV 29 53)]
 a38_c0))
 a38_c3)))
 a38_c2)))
def a38_c5 : ACode := (sr [(oP 18 (.bin .lss (.tmp 17) (.tmp 16)))]
 (.seq (.cond (.tmp 18) .skip (.exit 0))
 (.seq (.block 1 (sr [(mV 19 17), (oP 20 (.iaddr 6 (.tmp 15) (.tmp 17))), (oP 21 (.load true 6 (.tmp 20))), (oP 5 (.box (.const (.agg [(.val (.int .i64 0)), (.str []), (.ro true 2 []), (.str []), (.val (.int .i64 0)), (.ro true 1 [])])))), (mV 4 19), (oN (.store 6 (.tmp 5) (.tmp 21)))]
 (sr [(oP 22 (.faddr 5 (.tmp 5))), (oP 23 (.load false 1 (.tmp 22))), (oP 24 (.len (.tmp 23))), (oP 25 (.mov (kI 0)))]
 (.block 2 (.loop a38_c4)))))
 (.region [(oP 70 (.bin .add (.tmp 17) (kI 1))), (mV 17 70)]))))
def a38_c6 : ACode := (.cond (.tmp 88) (sr [(oP 2 (.mov (kI 3)))]
 .ret) .skip)
def a38_c7 : ACode := (.region [(oP 89 (.bin .add (.tmp 74) (kI 1))), (mV 74 89)])
def a38_c8 : ACode := (sr [(oP 75 (.bin .lss (.tmp 74) (.tmp 73)))]
 (.seq (.cond (.tmp 75) .skip (.exit 5))
 (.seq (.block 6 (sr [(mV 76 74), (oP 77 (.iaddr 6 (.tmp 72) (.tmp 74))), (oP 78 (.load true 6 (.tmp 77))), (oP 9 (.box (.const (.agg [(.val (.int .i64 0)), (.str []), (.ro true 2 []), (.str []), (.val (.int .i64 0)), (.ro true 1 [])])))), (mV 8 76), (oN (.store 6 (.tmp 9) (.tmp 78)))]
 (sr [(oP 79 (.faddr 4 (.tmp 9))), (oP 80 (.load false 1 (.tmp 79))), (oP 81 (.bin .neq (.tmp 80) (.const (.c (.val (.int .i64 (-1))))))), (mV 82 81), ⟨(some 83), (.mov (.tmp 3)), (some (82, true))⟩, ⟨(some 84), (.mov (.tmp 8)), (some (82, true))⟩, ⟨(some 85), (.iaddr 1 (.tmp 83) (.tmp 84)), (some (82, true))⟩, ⟨(some 86), (.load false 1 (.tmp 85)), (some (82, true))⟩, ⟨(some 87), (.un .not (.tmp 86)), (some (82, true))⟩, (oP 88 (.pick (.tmp 82) (.tmp 87) kF))]
 a38_c6)))
 a38_c7)))
def a38 : AFunc := ⟨1, [(.tmp 2)], (sr [(oP 1 (.box (.tmp 0))), (oP 2 (.mov (kI 0)))]
 (sr [(oP 10 (.faddr 0 (.tmp 1))), (oP 11 (.load false 1 (.tmp 10))), (oP 12 (.len (.tmp 11))), (oP 13 (.mksl 1 1 [(.val (.bool false))] (.tmp 12) (.tmp 12))), (mV 3 13)]
 (.seq (sr [(oP 14 (.faddr 0 (.tmp 1))), (oP 15 (.load false 1 (.tmp 14))), (oP 16 (.len (.tmp 15))), (oP 17 (.mov (kI 0)))]
 (.block 0 (.loop a38_c5)))
 (.seq (sr [(oP 71 (.faddr 0 (.tmp 1))), (oP 72 (.load false 1 (.tmp 71))), (oP 73 (.len (.tmp 72))), (oP 74 (.mov (kI 0)))]
 (.block 5 (.loop a38_c8)))
 (.seq (sr [(oP 90 (.faddr 0 (.tmp 1))), (oP 91 (.load false 1 (.tmp 90))), (oP 92 (.iaddr 6 (.tmp 91) (kI 0))), (oP 93 (.faddr 4 (.tmp 92))), (oP 94 (.load false 1 (.tmp 93))), (oP 95 (.bin .neq (.tmp 94) (.const (.c (.val (.int .i64 (-1)))))))]
 (.cond (.tmp 95) (sr [(oP 2 (.mov (kI 3)))]
 .ret) .skip))
 (sr [(oP 2 (.mov (kI 0)))]
 .ret))))))⟩
theorem c38 : compFunc Tryz.prog 38 = some a38 := by kernel_rfl
def Z1a (r : Int) : AV → Heap → Nat → Prop := fun v h' n' => v = (I r) ∧ (h' = e0) ∧ n' = 0
abbrev Z8i (mL : Int) (Q : AExit → St → Prop) : AExit → St → Prop := AThen (Sv Tryz.prog (GG mL) 0 a38_c2 Q) Q
abbrev Z4z (mL : Int) (Q : AExit → St → Prop) : AExit → St → Prop := ABlock 3 (Z8i mL Q)
abbrev Z8j (mL : Int) (Q : AExit → St → Prop) : AExit → St → Prop := AThen (Sv Tryz.prog (GG mL) 0 a38_c3 (Z4z mL Q)) (Z4z mL Q)
abbrev Z50 (mL : Int) (Q : AExit → St → Prop) : AExit → St → Prop := ABlock 4 (Z8j mL Q)
abbrev Z3w (v17 : Int) (d_ : TDoc) (x_ : TNode) (F_ : (List Bool) → Int → Option Int) (o : Int) (R_ : St → Prop) : Prop := ∀ (seen2 : (List Bool)) (v25 : Int) (zseen2 : Bool) (_ : zseen2 = true → seen2 = []), F_ seen2 v25 = some o → ∀ s, Weak 0 s ⟨(ue [(25, (I v25)), (24, (I (x_.Kids.length : Int))), (23, (.c (.ro false 1 (x_.Kids.map eI)))), (17, (I v17)), (16, (I (d_.Nodes.length : Int))), (15, (.c (.ro false 6 (d_.Nodes.map e_TNode)))), (4, (I v17)), (3, (lstV zseen2 1 1 seen2.length)), (1, (.c (.ref 0 2 0 0)))]), (upd (upd e0 0 (some (.cells 2 [(e_TDoc d_)]))) 1 (lstB zseen2 1 (seen2.map eB))), 2⟩ → R_ s
abbrev Z3x (d_ : TDoc) (v17 : Int) (F_ : (List Bool) → Option Int) (o : Int) (R_ : St → Prop) : Prop := ∀ (seen3 : (List Bool)) (zseen3 : Bool) (_ : zseen3 = true → seen3 = []), F_ seen3 = some o → ∀ s, Weak 0 s ⟨(ue [(17, (I v17)), (16, (I (d_.Nodes.length : Int))), (15, (.c (.ro false 6 (d_.Nodes.map e_TNode)))), (3, (lstV zseen3 1 1 seen3.length)), (1, (.c (.ref 0 2 0 0)))]), (upd (upd e0 0 (some (.cells 2 [(e_TDoc d_)]))) 1 (lstB zseen3 1 (seen3.map eB))), 2⟩ → R_ s
noncomputable def Zy (x_1 : Int) (v25 : Int) (v17 : Int) (d_ : TDoc) (x_ : TNode) (self : (List Bool) → Int → Option Int) (K2_ : (List Bool) → Option Int) (seen5 : (List Bool)) (v54 : Bool) : Option Int :=
 if v54 then
  some 7
 else
  (at? seen5 x_1).bind fun x_2 =>
  self (seen5.set x_1.toNat true) (wi (v25 + 1))
theorem Z51 {mL : Int} {Q : AExit → St → Prop} {x_1 : Int} {v25 : Int} {v17 : Int} {d_ : TDoc} {x_ : TNode} {self : (List Bool) → Int → Option Int} {K2_ : (List Bool) → Option Int} {seen5 : (List Bool)} {v54 : Bool} {zseen5 : Bool} (hzseen5 : zseen5 = true → seen5 = []) {o : Int} (h : Zy x_1 v25 v17 d_ x_ self K2_ seen5 v54 = some o)
  (hself : Z3w v17 d_ x_ self o (Q .normal))
  (hK2 : Z3x d_ v17 K2_ o (Q (.exit 2)))
  (hr : ∀ s, Ends a38.results 0 (Z1a o) .ret s → Q .ret s) :
  Sv Tryz.prog (GG mL) 0 a38_c1 (Z50 mL Q) ⟨(ue [(54, (B v54)), (25, (I v25)), (24, (I (x_.Kids.length : Int))), (23, (.c (.ro false 1 (x_.Kids.map eI)))), (17, (I v17)), (16, (I (d_.Nodes.length : Int))), (15, (.c (.ro false 6 (d_.Nodes.map e_TNode)))), (7, (I x_1)), (4, (I v17)), (3, (lstV zseen5 1 1 seen5.length)), (1, (.c (.ref 0 2 0 0)))]), (upd (upd e0 0 (some (.cells 2 [(e_TDoc d_)]))) 1 (lstB zseen5 1 (seen5.map eB))), 2⟩ := by
 unfold Zy at h
 refine Sv.cnd rfl h (fun h => ?_) fun h => ?_
 ·refine ssr <| un1 rfl <| dnil <| Sv.ret ?_
  exact hr _ (rt0 h rfl rfl ⟨rfl, rfl, rfl⟩)
 ·refine Sv.skip <| srg <| un1 rfl <| un1 rfl ?_
  obtain ⟨x_2, hx4, h⟩ := bnd h
  refine un1 (v := (.c (.ref 1 1 x_1.toNat 0))) (s_iaddrL rfl rfl hzseen5 hx4) <| un <| a2n (h' := upd _ 1 (lstB zseen5 1 ((seen5.set x_1.toNat true).map eB))) (n' := 2) rfl (s_storeL (e := eB) (q' := true) rfl rfl hzseen5 hx4 rfl rfl rfl (Nat.le_of_ble_eq_true rfl) rfl) hcs ?_
  try rw [len_set seen5 x_1.toNat true]
  refine dnil <| srg <| un1 (v := (I (wi (v25 + 1)))) rfl <| un1 rfl <| dnil ?_
  exact hself (seen5.set x_1.toNat true) (wi (v25 + 1)) zseen5 (hz_len hzseen5 (len_set seen5 x_1.toNat true)) h _ (wcn [0, 1] rfl (.cf rfl rfl (.cf rfl rfl (.cf rfl rfl (.cf rfl rfl (.cf rfl rfl (.cf rfl rfl (.cf rfl rfl (.cons rfl (.c (lsr rfl rfl)) (.cr rfl rfl rfl .nil))))))))) (.row (by decide) rfl (fr_map fun _ => rfl) (.box (by decide) rfl (blkAs_cells (.sm rfl (.sm rfl .nil))) .nil)))
noncomputable def Zi (v17 : Int) (d_ : TDoc) (x_1 : Int) (v25 : Int) (x_ : TNode) (self : (List Bool) → Int → Option Int) (K2_ : (List Bool) → Option Int) (seen4 : (List Bool)) (v29 : Bool) : Option Int :=
 if v29 then
  some 3
 else
  if decide (v17 = 0) then
   (at? d_.Nodes x_1).bind fun x_3 =>
   Zy x_1 v25 v17 d_ x_ self K2_ seen4 (decide (x_3.Kind = 3))
  else
   Zy x_1 v25 v17 d_ x_ self K2_ seen4 false
theorem Z3y {mL : Int} {Q : AExit → St → Prop} {v17 : Int} {d_ : TDoc} {x_1 : Int} {v25 : Int} {x_ : TNode} {self : (List Bool) → Int → Option Int} {K2_ : (List Bool) → Option Int} {seen4 : (List Bool)} {v29 : Bool} {zseen4 : Bool} (hzseen4 : zseen4 = true → seen4 = []) {o : Int} (h : Zi v17 d_ x_1 v25 x_ self K2_ seen4 v29 = some o)
  (hself : Z3w v17 d_ x_ self o (Q .normal))
  (hK2 : Z3x d_ v17 K2_ o (Q (.exit 2)))
  (hr : ∀ s, Ends a38.results 0 (Z1a o) .ret s → Q .ret s) :
  Sv Tryz.prog (GG mL) 0 a38_c0 (Z50 mL Q) ⟨(ue [(29, (B v29)), (25, (I v25)), (24, (I (x_.Kids.length : Int))), (23, (.c (.ro false 1 (x_.Kids.map eI)))), (17, (I v17)), (16, (I (d_.Nodes.length : Int))), (15, (.c (.ro false 6 (d_.Nodes.map e_TNode)))), (7, (I x_1)), (4, (I v17)), (3, (lstV zseen4 1 1 seen4.length)), (1, (.c (.ref 0 2 0 0)))]), (upd (upd e0 0 (some (.cells 2 [(e_TDoc d_)]))) 1 (lstB zseen4 1 (seen4.map eB))), 2⟩ := by
 unfold Zi at h
 refine Sv.cnd rfl h (fun h => ?_) fun h => ?_
 ·refine ssr <| un1 rfl <| dnil <| Sv.ret ?_
  exact hr _ (rt0 h rfl rfl ⟨rfl, rfl, rfl⟩)
 ·refine ssr <| un1 rfl <| un1 (v := (B (decide (v17 = 0)))) rfl <| un1 rfl ?_
  refine spl h (fun h => ?_) fun h => ?_
  ·refine gt rfl <| a1 (v := (.c (.ref 0 2 0 0))) rfl <| gt rfl <| a1 (v := (.c (.ro false 6 (d_.Nodes.map e_TNode)))) rfl <| gt rfl <| a1 rfl ?_
   obtain ⟨x_3, hx5, h⟩ := bnd h
   refine gt rfl <| a1 (v := (.c (.rop (e_TNode x_3)))) (s_iaddr (e := e_TNode) (xs := d_.Nodes) rfl rfl hx5) <| gt rfl <| a1 (v := (.c (.rop (e_TNode x_3)))) rfl <| gt rfl <| a1 (v := (I x_3.Kind)) rfl <| gt rfl <| a1 (v := (B (decide (x_3.Kind = 3)))) rfl <| un1 (v := (B (decide (x_3.Kind = 3)))) rfl <| un1 rfl <| dnil ?_
   exact Sv.weak (wcn [0, 1] rfl (.cf rfl rfl (.cf rfl rfl (.cf rfl rfl (.cf rfl rfl (.cf rfl rfl (.cf rfl rfl (.cf rfl rfl (.cf rfl rfl (.cf rfl rfl (.cons rfl (.c (lsr rfl rfl)) (.cr rfl rfl rfl .nil))))))))))) (.row (by decide) rfl (fr_map fun _ => rfl) (.box (by decide) rfl (blkAs_cells (.sm rfl (.sm rfl .nil))) .nil))) (Z51 hzseen4 h hself hK2 hr)
  ·repeat (first | refine gu rfl ?_ | refine gs rfl rfl ?_)
   refine un1 (v := (B false)) rfl <| un1 rfl <| dnil ?_
   exact Sv.weak (wcn [0, 1] rfl (.cf rfl rfl (.cf rfl rfl (.cf rfl rfl (.cf rfl rfl (.cf rfl rfl (.cf rfl rfl (.cf rfl rfl (.cf rfl rfl (.cf rfl rfl (.cons rfl (.c (lsr rfl rfl)) (.cr rfl rfl rfl .nil))))))))))) (.row (by decide) rfl (fr_map fun _ => rfl) (.box (by decide) rfl (blkAs_cells (.sm rfl (.sm rfl .nil))) .nil))) (Z51 hzseen4 h hself hK2 hr)
abbrev Z52 (v17 : Int) (d_ : TDoc) (x_ : TNode) (F_ : Nat → (List Bool) → Int → Option Int) (o : Int) : Nat → St → Prop := fun k s => ∃ (seen2 : (List Bool)), ∃ (v25 : Int), ∃ (zseen2 : Bool), (zseen2 = true → seen2 = []) ∧ F_ k seen2 v25 = some o ∧ s = ⟨(ue [(25, (I v25)), (24, (I (x_.Kids.length : Int))), (23, (.c (.ro false 1 (x_.Kids.map eI)))), (17, (I v17)), (16, (I (d_.Nodes.length : Int))), (15, (.c (.ro false 6 (d_.Nodes.map e_TNode)))), (4, (I v17)), (3, (lstV zseen2 1 1 seen2.length)), (1, (.c (.ref 0 2 0 0)))]), (upd (upd e0 0 (some (.cells 2 [(e_TDoc d_)]))) 1 (lstB zseen2 1 (seen2.map eB))), 2⟩
noncomputable def Z0 (x_ : TNode) (v17 : Int) (d_ : TDoc) (K2_ : (List Bool) → Option Int) : Nat → (List Bool) → Int → Option Int
 | 0, _, _ => none
 | k + 1, seen2, v25 =>
  if decide (v25 < (x_.Kids.length : Int)) then
   (at? x_.Kids v25).bind fun x_1 =>
   if ((decide (x_1 < 0)) || (decide ((seen2.length : Int) ≤ x_1))) then
    Zi v17 d_ x_1 v25 x_ (Z0 x_ v17 d_ K2_ k) K2_ seen2 true
   else
    (at? d_.Nodes x_1).bind fun x_4 =>
    if (!decide (x_4.Parent = v17)) then
     Zi v17 d_ x_1 v25 x_ (Z0 x_ v17 d_ K2_ k) K2_ seen2 true
    else
     (at? seen2 x_1).bind fun x_5 =>
     Zi v17 d_ x_1 v25 x_ (Z0 x_ v17 d_ K2_ k) K2_ seen2 x_5
  else
   K2_ seen2
theorem Z8k {mL : Int} {Q : AExit → St → Prop} {x_ : TNode} {v17 : Int} {d_ : TDoc} {K2_ : (List Bool) → Option Int} {k : Nat} {seen2 : (List Bool)} {v25 : Int} {zseen2 : Bool} (hzseen2 : zseen2 = true → seen2 = []) {o : Int} (h : Z0 x_ v17 d_ K2_ k seen2 v25 = some o)
  (hK2 : Z3x d_ v17 K2_ o (Q (.exit 2)))
  (hr : ∀ s, Ends a38.results 0 (Z1a o) .ret s → Q .ret s) :
  Sv Tryz.prog (GG mL) 0 (.loop a38_c4) Q ⟨(ue [(25, (I v25)), (24, (I (x_.Kids.length : Int))), (23, (.c (.ro false 1 (x_.Kids.map eI)))), (17, (I v17)), (16, (I (d_.Nodes.length : Int))), (15, (.c (.ro false 6 (d_.Nodes.map e_TNode)))), (4, (I v17)), (3, (lstV zseen2 1 1 seen2.length)), (1, (.c (.ref 0 2 0 0)))]), (upd (upd e0 0 (some (.cells 2 [(e_TDoc d_)]))) 1 (lstB zseen2 1 (seen2.map eB))), 2⟩ := by
 refine Sv.loop (I := Z52 v17 d_ x_ (Z0 x_ v17 d_ K2_) o) (fun k s hI => ?_) ⟨seen2, v25, zseen2, hzseen2, h, rfl⟩
 clear h
 clear hzseen2 zseen2 v25 seen2
 obtain ⟨seen2, v25, zseen2, hzseen2, h, rfl⟩ := hI
 cases k with
 | zero => cases h
 | succ k =>
 rw [Z0] at h
 have hself : Z3w v17 d_ x_ (Z0 x_ v17 d_ K2_ k) o (rnd 0 (Z52 v17 d_ x_ (Z0 x_ v17 d_ K2_) o) k Q) := fun seen2 v25 zseen2 hzseen2 h s hw => ⟨_, k, hw, Nat.lt_succ_self k, seen2, v25, zseen2, hzseen2, h, rfl⟩
 refine ssr <| un1 (v := (B (decide (v25 < (x_.Kids.length : Int))))) rfl <| dnil <| Sv.seq ?_
 refine Sv.cnd rfl h (fun h => ?_) fun h => ?_
 ·refine Sv.skip <| Sv.seq <| Sv.block <| ssr ?_
  obtain ⟨x_1, hx3, h⟩ := bnd h
  refine un1 (v := (.c (.rop [cI x_1]))) (s_iaddr (e := eI) (xs := x_.Kids) rfl rfl hx3) <| un1 (v := (I x_1)) rfl <| un1 rfl <| dnil <| Sv.seq <| Sv.block <| ssr <| un1 rfl <| un1 (v := (B (decide (x_1 < 0)))) rfl <| un1 rfl ?_
  refine gjoin 5 (d := 37) (v := (B ((decide (x_1 < 0)) || (decide ((seen2.length : Int) ≤ x_1))))) (fun X hX => ?_) ?_
  ·refine split2 (fun hc6 => ?_) (fun hc6 => ?_)
   ·refine gs rfl rfl <| gs rfl rfl <| gs rfl rfl <| gs rfl rfl <| un1 (v := (B true)) rfl <| dnil ?_
    exact hX _ (.putEq (by rw [hc6]; rfl) (.skp (.skp (.skp (.skp (.putEq (by rw [hc6]) (.refl _)) rfl) rfl) rfl) rfl))
   ·refine gt rfl <| a1 rfl <| gt rfl <| a1 rfl <| gt rfl <| a1 (v := (I (seen2.length : Int))) (s_lenL rfl (len_nil_of hzseen2)) <| gt rfl <| a1 (v := (B (decide ((seen2.length : Int) ≤ x_1)))) rfl <| un1 (v := (B (decide ((seen2.length : Int) ≤ x_1)))) rfl <| dnil ?_
    exact hX _ (.putEq (by rw [hc6]; rfl) (.skp (.skp (.skp (.skp (.putEq (by rw [hc6]) (.refl _)) rfl) rfl) rfl) rfl))
  refine un1 rfl ?_
  refine spl h (fun h => ?_) fun h => ?_
  ·repeat (first | refine gu rfl ?_ | refine gs rfl rfl ?_)
   refine un1 (v := (B true)) rfl <| un1 rfl <| gs rfl rfl <| gs rfl rfl <| gs rfl rfl <| gs rfl rfl <| un1 (v := (B true)) rfl <| un1 rfl <| dnil ?_
   exact Sv.weak (wcn [0, 1] rfl (.cf rfl rfl (.cf rfl rfl (.cf rfl rfl (.cf rfl rfl (.cf rfl rfl (.cf rfl rfl (.cf rfl rfl (.cf rfl rfl (.cf rfl rfl (.cons rfl (.c (lsr rfl rfl)) (.cr rfl rfl rfl .nil))))))))))) (.row (by decide) rfl (fr_map fun _ => rfl) (.box (by decide) rfl (blkAs_cells (.sm rfl (.sm rfl .nil))) .nil))) (Z3y hzseen2 h hself hK2 hr)
  ·refine gt rfl <| a1 (v := (.c (.ref 0 2 0 0))) rfl <| gt rfl <| a1 (v := (.c (.ro false 6 (d_.Nodes.map e_TNode)))) rfl <| gt rfl <| a1 rfl ?_
   obtain ⟨x_4, hx6, h⟩ := bnd h
   refine gt rfl <| a1 (v := (.c (.rop (e_TNode x_4)))) (s_iaddr (e := e_TNode) (xs := d_.Nodes) rfl rfl hx6) <| gt rfl <| a1 (v := (.c (.rop [cI x_4.Parent, .ro false 1 (x_4.Kids.map eI)]))) rfl <| gt rfl <| a1 (v := (I x_4.Parent)) rfl <| gt rfl <| a1 rfl <| gt rfl <| a1 (v := (B (!decide (x_4.Parent = v17)))) rfl <| un1 (v := (B (!decide (x_4.Parent = v17)))) rfl <| un1 rfl ?_
   refine spl h (fun h => ?_) fun h => ?_
   ·refine gs rfl rfl <| gs rfl rfl <| gs rfl rfl <| gs rfl rfl <| un1 (v := (B true)) rfl <| un1 rfl <| dnil ?_
    exact Sv.weak (wcn [0, 1] rfl (.cf rfl rfl (.cf rfl rfl (.cf rfl rfl (.cf rfl rfl (.cf rfl rfl (.cf rfl rfl (.cf rfl rfl (.cf rfl rfl (.cf rfl rfl (.cons rfl (.c (lsr rfl rfl)) (.cr rfl rfl rfl .nil))))))))))) (.row (by decide) rfl (fr_map fun _ => rfl) (.box (by decide) rfl (blkAs_cells (.sm rfl (.sm rfl .nil))) .nil))) (Z3y hzseen2 h hself hK2 hr)
   ·refine gt rfl <| a1 rfl <| gt rfl <| a1 rfl ?_
    obtain ⟨x_5, hx7, h⟩ := bnd h
    refine gt rfl <| a1 (v := (.c (.ref 1 1 x_1.toNat 0))) (s_iaddrL rfl rfl hzseen2 hx7) <| gt rfl <| a1 (v := (B x_5)) (s_loadL (z := zseen2) (e := eB) rfl rfl hzseen2 hx7 rfl rfl) <| un1 (v := (B x_5)) rfl <| un1 rfl <| dnil ?_
    exact Sv.weak (wcn [0, 1] rfl (.cf rfl rfl (.cf rfl rfl (.cf rfl rfl (.cf rfl rfl (.cf rfl rfl (.cf rfl rfl (.cf rfl rfl (.cf rfl rfl (.cf rfl rfl (.cons rfl (.c (lsr rfl rfl)) (.cr rfl rfl rfl .nil))))))))))) (.row (by decide) rfl (fr_map fun _ => rfl) (.box (by decide) rfl (blkAs_cells (.sm rfl (.sm rfl .nil))) .nil))) (Z3y hzseen2 h hself hK2 hr)
 ·refine Sv.exit ?_
  exact hK2 seen2 zseen2 hzseen2 h _ (wcn [0, 1] rfl (.cf rfl rfl (.cf rfl rfl (.cf rfl rfl (.cons rfl (.c (lsr rfl rfl)) (.cr rfl rfl rfl .nil))))) (.row (by decide) rfl (fr_map fun _ => rfl) (.box (by decide) rfl (blkAs_cells (.sm rfl (.sm rfl .nil))) .nil)))
abbrev Z8l (d_ : TDoc) (F_ : (List Bool) → Option Int) (o : Int) (R_ : St → Prop) : Prop := ∀ (seen1 : (List Bool)) (zseen1 : Bool) (_ : zseen1 = true → seen1 = []), F_ seen1 = some o → ∀ s, Weak 0 s ⟨(ue [(3, (lstV zseen1 1 1 seen1.length)), (1, (.c (.ref 0 2 0 0)))]), (upd (upd e0 0 (some (.cells 2 [(e_TDoc d_)]))) 1 (lstB zseen1 1 (seen1.map eB))), 2⟩ → R_ s
abbrev Z53 (d_ : TDoc) (F_ : Nat → (List Bool) → Int → Option Int) (o : Int) : Nat → St → Prop := fun k s => ∃ (seen : (List Bool)), ∃ (v17 : Int), ∃ (zseen : Bool), (zseen = true → seen = []) ∧ F_ k seen v17 = some o ∧ s = ⟨(ue [(17, (I v17)), (16, (I (d_.Nodes.length : Int))), (15, (.c (.ro false 6 (d_.Nodes.map e_TNode)))), (3, (lstV zseen 1 1 seen.length)), (1, (.c (.ref 0 2 0 0)))]), (upd (upd e0 0 (some (.cells 2 [(e_TDoc d_)]))) 1 (lstB zseen 1 (seen.map eB))), 2⟩
abbrev Z8m (d_ : TDoc) (F_ : (List Bool) → Int → Option Int) (o : Int) (R_ : St → Prop) : Prop := ∀ (seen : (List Bool)) (v17 : Int) (zseen : Bool) (_ : zseen = true → seen = []), F_ seen v17 = some o → ∀ s, Weak 0 s ⟨(ue [(17, (I v17)), (16, (I (d_.Nodes.length : Int))), (15, (.c (.ro false 6 (d_.Nodes.map e_TNode)))), (3, (lstV zseen 1 1 seen.length)), (1, (.c (.ref 0 2 0 0)))]), (upd (upd e0 0 (some (.cells 2 [(e_TDoc d_)]))) 1 (lstB zseen 1 (seen.map eB))), 2⟩ → R_ s
noncomputable def Z9 (d_ : TDoc) (K0_ : (List Bool) → Option Int) : Nat → (List Bool) → Int → Option Int
 | 0, _, _ => none
 | k + 1, seen, v17 =>
  if decide (v17 < (d_.Nodes.length : Int)) then
   (at? d_.Nodes v17).bind fun x_ =>
   lim fun kk => Z0 x_ v17 d_ (fun (seen3 : (List Bool)) => 
     (Z9 d_ K0_ k) seen3 (wi (v17 + 1))) kk seen 0
  else
   K0_ seen
theorem Z8n {mL : Int} {Q : AExit → St → Prop} {d_ : TDoc} {K0_ : (List Bool) → Option Int} {k : Nat} {seen : (List Bool)} {v17 : Int} {zseen : Bool} (hzseen : zseen = true → seen = []) {o : Int} (h : Z9 d_ K0_ k seen v17 = some o)
  (hK0 : Z8l d_ K0_ o (Q (.exit 0)))
  (hr : ∀ s, Ends a38.results 0 (Z1a o) .ret s → Q .ret s) :
  Sv Tryz.prog (GG mL) 0 (.loop a38_c5) Q ⟨(ue [(17, (I v17)), (16, (I (d_.Nodes.length : Int))), (15, (.c (.ro false 6 (d_.Nodes.map e_TNode)))), (3, (lstV zseen 1 1 seen.length)), (1, (.c (.ref 0 2 0 0)))]), (upd (upd e0 0 (some (.cells 2 [(e_TDoc d_)]))) 1 (lstB zseen 1 (seen.map eB))), 2⟩ := by
 refine Sv.loop (I := Z53 d_ (Z9 d_ K0_) o) (fun k s hI => ?_) ⟨seen, v17, zseen, hzseen, h, rfl⟩
 clear h
 clear hzseen zseen v17 seen
 obtain ⟨seen, v17, zseen, hzseen, h, rfl⟩ := hI
 cases k with
 | zero => cases h
 | succ k =>
 rw [Z9] at h
 have hself : Z8m d_ (Z9 d_ K0_ k) o (rnd 0 (Z53 d_ (Z9 d_ K0_) o) k Q) := fun seen v17 zseen hzseen h s hw => ⟨_, k, hw, Nat.lt_succ_self k, seen, v17, zseen, hzseen, h, rfl⟩
 refine ssr <| un1 (v := (B (decide (v17 < (d_.Nodes.length : Int))))) rfl <| dnil <| Sv.seq ?_
 refine Sv.cnd rfl h (fun h => ?_) fun h => ?_
 ·refine Sv.skip <| Sv.seq <| Sv.block <| ssr <| un1 rfl ?_
  obtain ⟨x_, hx2, h⟩ := bnd h
  refine un1 (v := (.c (.rop (e_TNode x_)))) (s_iaddr (e := e_TNode) (xs := d_.Nodes) rfl rfl hx2) <| un1 (v := (.agg (e_TNode x_))) rfl <| un <| a2v (v := (.c (.ref 2 6 0 0))) (h' := upd _ 2 (some (.cells 6 [[cI 0, .str [], .ro true 2 [], .str [], cI 0, .ro true 1 []]]))) (n' := 3) rfl rfl hcs <| un1 rfl <| un <| a2n (h' := upd _ 2 (some (.cells 6 [(e_TNode x_)]))) (n' := 3) rfl rfl hcs <| dnil <| ssr <| un1 (v := (.c (.ref 2 6 0 5))) rfl <| un1 (v := (.c (.ro false 1 (x_.Kids.map eI)))) rfl <| un1 (v := (I (x_.Kids.length : Int))) (s_len (e := eI) (xs := x_.Kids) rfl) <| un1 rfl <| dnil <| Sv.block ?_
  obtain ⟨kk, h⟩ := lim_some h
  refine Sv.weak (wcn [0, 1] rfl (.cf rfl rfl (.cf rfl rfl (.cf rfl rfl (.cf rfl rfl (.cf rfl rfl (.cf rfl rfl (.cf rfl rfl (.cons rfl (.c (lsr rfl rfl)) (.cr rfl rfl rfl .nil))))))))) (.row (by decide) rfl (fr_map fun _ => rfl) (.box (by decide) rfl (blkAs_cells (.sm rfl (.sm rfl .nil))) .nil))) (Z8k hzseen h ?_ hr)
  ·intro seen3 zseen3 hzseen3 h _ hw1
   refine Sv.weak hw1 <| srg <| un1 (v := (I (wi (v17 + 1)))) rfl <| un1 rfl <| dnil ?_
   exact hself seen3 (wi (v17 + 1)) zseen3 hzseen3 h _ (wcn [0, 1] rfl (.cf rfl rfl (.cf rfl rfl (.cf rfl rfl (.cons rfl (.c (lsr rfl rfl)) (.cr rfl rfl rfl .nil))))) (.row (by decide) rfl (fr_map fun _ => rfl) (.box (by decide) rfl (blkAs_cells (.sm rfl (.sm rfl .nil))) .nil)))
 ·refine Sv.exit ?_
  exact hK0 seen zseen hzseen h _ (wcn [0, 1] rfl (.cons rfl (.c (lsr rfl rfl)) (.cr rfl rfl rfl .nil)) (.row (by decide) rfl (fr_map fun _ => rfl) (.box (by decide) rfl (blkAs_cells (.sm rfl (.sm rfl .nil))) .nil)))
abbrev Z8o (mL : Int) (Q : AExit → St → Prop) : AExit → St → Prop := AThen (Sv Tryz.prog (GG mL) 0 a38_c7 Q) Q
abbrev Z8p (mL : Int) (Q : AExit → St → Prop) : AExit → St → Prop := ABlock 6 (Z8o mL Q)
abbrev Z54 (d_ : TDoc) (F_ : (List Bool) → Int → Option Int) (o : Int) (R_ : St → Prop) : Prop := ∀ (seen6 : (List Bool)) (v74 : Int) (zseen6 : Bool) (_ : zseen6 = true → seen6 = []), F_ seen6 v74 = some o → ∀ s, Weak 0 s ⟨(ue [(74, (I v74)), (73, (I (d_.Nodes.length : Int))), (72, (.c (.ro false 6 (d_.Nodes.map e_TNode)))), (3, (lstV zseen6 1 1 seen6.length)), (1, (.c (.ref 0 2 0 0)))]), (upd (upd e0 0 (some (.cells 2 [(e_TDoc d_)]))) 1 (lstB zseen6 1 (seen6.map eB))), 2⟩ → R_ s
abbrev Z55 (d_ : TDoc) (F_ : Unit → Option Int) (o : Int) (R_ : St → Prop) : Prop := ∀ (_ : Unit), F_ () = some o → ∀ s, Weak 0 s ⟨(upd e0 1 (some (.c (.ref 0 2 0 0)))), (upd e0 0 (some (.cells 2 [(e_TDoc d_)]))), 1⟩ → R_ s
noncomputable def Zs (v74 : Int) (d_ : TDoc) (self : (List Bool) → Int → Option Int) (K5_ : Unit → Option Int) (seen7 : (List Bool)) (v88 : Bool) : Option Int :=
 if v88 then
  some 3
 else
  self seen7 (wi (v74 + 1))
theorem Z56 {mL : Int} {Q : AExit → St → Prop} {v74 : Int} {d_ : TDoc} {self : (List Bool) → Int → Option Int} {K5_ : Unit → Option Int} {seen7 : (List Bool)} {v88 : Bool} {zseen7 : Bool} (hzseen7 : zseen7 = true → seen7 = []) {o : Int} (h : Zs v74 d_ self K5_ seen7 v88 = some o)
  (hself : Z54 d_ self o (Q .normal))
  (hK5 : Z55 d_ K5_ o (Q (.exit 5)))
  (hr : ∀ s, Ends a38.results 0 (Z1a o) .ret s → Q .ret s) :
  Sv Tryz.prog (GG mL) 0 a38_c6 (Z8p mL Q) ⟨(ue [(88, (B v88)), (74, (I v74)), (73, (I (d_.Nodes.length : Int))), (72, (.c (.ro false 6 (d_.Nodes.map e_TNode)))), (3, (lstV zseen7 1 1 seen7.length)), (1, (.c (.ref 0 2 0 0)))]), (upd (upd e0 0 (some (.cells 2 [(e_TDoc d_)]))) 1 (lstB zseen7 1 (seen7.map eB))), 2⟩ := by
 unfold Zs at h
 refine Sv.cnd rfl h (fun h => ?_) fun h => ?_
 ·refine ssr <| un1 rfl <| dnil <| Sv.ret ?_
  exact hr _ (rt0 h rfl rfl ⟨rfl, rfl, rfl⟩)
 ·refine Sv.skip <| srg <| un1 (v := (I (wi (v74 + 1)))) rfl <| un1 rfl <| dnil ?_
  exact hself seen7 (wi (v74 + 1)) zseen7 hzseen7 h _ (wcn [0, 1] rfl (.cf rfl rfl (.cf rfl rfl (.cf rfl rfl (.cons rfl (.c (lsr rfl rfl)) (.cr rfl rfl rfl .nil))))) (.row (by decide) rfl (fr_map fun _ => rfl) (.box (by decide) rfl (blkAs_cells (.sm rfl (.sm rfl .nil))) .nil)))
abbrev Z57 (d_ : TDoc) (F_ : Nat → (List Bool) → Int → Option Int) (o : Int) : Nat → St → Prop := fun k s => ∃ (seen6 : (List Bool)), ∃ (v74 : Int), ∃ (zseen6 : Bool), (zseen6 = true → seen6 = []) ∧ F_ k seen6 v74 = some o ∧ s = ⟨(ue [(74, (I v74)), (73, (I (d_.Nodes.length : Int))), (72, (.c (.ro false 6 (d_.Nodes.map e_TNode)))), (3, (lstV zseen6 1 1 seen6.length)), (1, (.c (.ref 0 2 0 0)))]), (upd (upd e0 0 (some (.cells 2 [(e_TDoc d_)]))) 1 (lstB zseen6 1 (seen6.map eB))), 2⟩
noncomputable def Z1 (d_ : TDoc) (K5_ : Unit → Option Int) : Nat → (List Bool) → Int → Option Int
 | 0, _, _ => none
 | k + 1, seen6, v74 =>
  if decide (v74 < (d_.Nodes.length : Int)) then
   (at? d_.Nodes v74).bind fun x_6 =>
   if (!decide (x_6.Parent = (-1))) then
    (at? seen6 v74).bind fun x_7 =>
    Zs v74 d_ (Z1 d_ K5_ k) K5_ seen6 (!x_7)
   else
    Zs v74 d_ (Z1 d_ K5_ k) K5_ seen6 false
  else
   K5_ ()
theorem Z8q {mL : Int} {Q : AExit → St → Prop} {d_ : TDoc} {K5_ : Unit → Option Int} {k : Nat} {seen6 : (List Bool)} {v74 : Int} {zseen6 : Bool} (hzseen6 : zseen6 = true → seen6 = []) {o : Int} (h : Z1 d_ K5_ k seen6 v74 = some o)
  (hK5 : Z55 d_ K5_ o (Q (.exit 5)))
  (hr : ∀ s, Ends a38.results 0 (Z1a o) .ret s → Q .ret s) :
  Sv Tryz.prog (GG mL) 0 (.loop a38_c8) Q ⟨(ue [(74, (I v74)), (73, (I (d_.Nodes.length : Int))), (72, (.c (.ro false 6 (d_.Nodes.map e_TNode)))), (3, (lstV zseen6 1 1 seen6.length)), (1, (.c (.ref 0 2 0 0)))]), (upd (upd e0 0 (some (.cells 2 [(e_TDoc d_)]))) 1 (lstB zseen6 1 (seen6.map eB))), 2⟩ := by
 refine Sv.loop (I := Z57 d_ (Z1 d_ K5_) o) (fun k s hI => ?_) ⟨seen6, v74, zseen6, hzseen6, h, rfl⟩
 clear h
 clear hzseen6 zseen6 v74 seen6
 obtain ⟨seen6, v74, zseen6, hzseen6, h, rfl⟩ := hI
 cases k with
 | zero => cases h
 | succ k =>
 rw [Z1] at h
 have hself : Z54 d_ (Z1 d_ K5_ k) o (rnd 0 (Z57 d_ (Z1 d_ K5_) o) k Q) := fun seen6 v74 zseen6 hzseen6 h s hw => ⟨_, k, hw, Nat.lt_succ_self k, seen6, v74, zseen6, hzseen6, h, rfl⟩
 refine ssr <| un1 (v := (B (decide (v74 < (d_.Nodes.length : Int))))) rfl <| dnil <| Sv.seq ?_
 refine Sv.cnd rfl h (fun h => ?_) fun h => ?_
 ·refine Sv.skip <| Sv.seq <| Sv.block <| ssr <| un1 rfl ?_
  obtain ⟨x_6, hx8, h⟩ := bnd h
  refine un1 (v := (.c (.rop (e_TNode x_6)))) (s_iaddr (e := e_TNode) (xs := d_.Nodes) rfl rfl hx8) <| un1 (v := (.agg (e_TNode x_6))) rfl <| un <| a2v (v := (.c (.ref 2 6 0 0))) (h' := upd _ 2 (some (.cells 6 [[cI 0, .str [], .ro true 2 [], .str [], cI 0, .ro true 1 []]]))) (n' := 3) rfl rfl hcs <| un1 rfl <| un <| a2n (h' := upd _ 2 (some (.cells 6 [(e_TNode x_6)]))) (n' := 3) rfl rfl hcs <| dnil <| ssr <| un1 (v := (.c (.ref 2 6 0 4))) rfl <| un1 (v := (I x_6.Parent)) rfl <| un1 (v := (B (!decide (x_6.Parent = (-1))))) rfl <| un1 rfl ?_
  refine spl h (fun h => ?_) fun h => ?_
  ·refine gt rfl <| a1 rfl <| gt rfl <| a1 rfl ?_
   obtain ⟨x_7, hx9, h⟩ := bnd h
   refine gt rfl <| a1 (v := (.c (.ref 1 1 v74.toNat 0))) (s_iaddrL rfl rfl hzseen6 hx9) <| gt rfl <| a1 (v := (B x_7)) (s_loadL (z := zseen6) (e := eB) rfl rfl hzseen6 hx9 rfl rfl) <| gt rfl <| a1 (v := (B (!x_7))) rfl <| un1 (v := (B (!x_7))) rfl <| dnil ?_
   exact Sv.weak (wcn [0, 1] rfl (.cf rfl rfl (.cf rfl rfl (.cf rfl rfl (.cf rfl rfl (.cons rfl (.c (lsr rfl rfl)) (.cr rfl rfl rfl .nil)))))) (.row (by decide) rfl (fr_map fun _ => rfl) (.box (by decide) rfl (blkAs_cells (.sm rfl (.sm rfl .nil))) .nil))) (Z56 hzseen6 h hself hK5 hr)
  ·repeat (first | refine gu rfl ?_ | refine gs rfl rfl ?_)
   refine un1 (v := (B false)) rfl <| dnil ?_
   exact Sv.weak (wcn [0, 1] rfl (.cf rfl rfl (.cf rfl rfl (.cf rfl rfl (.cf rfl rfl (.cons rfl (.c (lsr rfl rfl)) (.cr rfl rfl rfl .nil)))))) (.row (by decide) rfl (fr_map fun _ => rfl) (.box (by decide) rfl (blkAs_cells (.sm rfl (.sm rfl .nil))) .nil))) (Z56 hzseen6 h hself hK5 hr)
 ·refine Sv.exit ?_
  exact hK5 () h _ (wcn [0] rfl (.cr rfl rfl rfl .nil) (.box (by decide) rfl (blkAs_cells (.sm rfl (.sm rfl .nil))) .nil))
/-- clerestory/dom.kids -/
noncomputable def Zz (d_ : TDoc) : Option Int :=
 (mkl? 1 (d_.Nodes.length : Int) (d_.Nodes.length : Int) (false : Bool)).bind fun row =>
 lim fun kk2 => Z9 d_ (fun (seen1 : (List Bool)) => 
   lim fun kk1 => Z1 d_ (fun (_ : Unit) => 
     (at? d_.Nodes 0).bind fun x_8 =>
     if (!decide (x_8.Parent = (-1))) then
      some 3
     else
      some 0) kk1 seen1 0) kk2 row 0
theorem Z8r {mL : Int} {d_ : TDoc} {r : Int} (h : Zz d_ = some r) : CPure Tryz.prog (GG mL) 38 [(.agg (e_TDoc d_))] (I r) := by
 refine acalls_of_sv hmix c38 (R := Z1a r) ?_
 unfold Zz at h
 refine ssr <| un <| a2v (v := (.c (.ref 0 2 0 0))) (h' := upd _ 0 (some (.cells 2 [(e_TDoc d_)]))) (n' := 1) rfl rfl hcs <| un1 rfl <| dnil <| ssr <| un1 (v := (.c (.ref 0 2 0 0))) rfl <| un1 (v := (.c (.ro false 6 (d_.Nodes.map e_TNode)))) rfl <| un1 (v := (I (d_.Nodes.length : Int))) (s_len (e := e_TNode) (xs := d_.Nodes) rfl) ?_
 obtain ⟨row, hx1, h⟩ := bnd h
 refine un <| a2mk (e := eB) rfl rfl hx1 (fun _ _ => (.sm rfl .nil)) <| un1 rfl <| dnil <| Sv.seq <| ssr <| un1 (v := (.c (.ref 0 2 0 0))) rfl <| un1 (v := (.c (.ro false 6 (d_.Nodes.map e_TNode)))) rfl <| un1 (v := (I (d_.Nodes.length : Int))) (s_len (e := e_TNode) (xs := d_.Nodes) rfl) <| un1 rfl <| dnil <| Sv.block ?_
 obtain ⟨kk2, h⟩ := lim_some h
 refine Sv.weak (wcn [0, 1] rfl (.cf rfl rfl (.cf rfl rfl (.cf rfl rfl (.cons rfl (.c (lsr rfl rfl)) (.cr rfl rfl rfl .nil))))) (.row (by decide) rfl (fr_map fun _ => rfl) (.box (by decide) rfl (blkAs_cells (.sm rfl (.sm rfl .nil))) .nil))) (Z8n hcs h ?_ (fun s hs => hs))
 ·intro seen1 zseen1 hzseen1 h _ hw2
  refine Sv.weak hw2 <| Sv.seq <| ssr <| un1 (v := (.c (.ref 0 2 0 0))) rfl <| un1 (v := (.c (.ro false 6 (d_.Nodes.map e_TNode)))) rfl <| un1 (v := (I (d_.Nodes.length : Int))) (s_len (e := e_TNode) (xs := d_.Nodes) rfl) <| un1 rfl <| dnil <| Sv.block ?_
  obtain ⟨kk1, h⟩ := lim_some h
  refine Sv.weak (wcn [0, 1] rfl (.cf rfl rfl (.cf rfl rfl (.cf rfl rfl (.cons rfl (.c (lsr rfl rfl)) (.cr rfl rfl rfl .nil))))) (.row (by decide) rfl (fr_map fun _ => rfl) (.box (by decide) rfl (blkAs_cells (.sm rfl (.sm rfl .nil))) .nil))) (Z8q hzseen1 h ?_ (fun s hs => hs))
  ·intro _ h _ hw3
   refine Sv.weak hw3 <| Sv.seq <| ssr <| un1 (v := (.c (.ref 0 2 0 0))) rfl <| un1 (v := (.c (.ro false 6 (d_.Nodes.map e_TNode)))) rfl ?_
   obtain ⟨x_8, hx10, h⟩ := bnd h
   refine un1 (v := (.c (.rop (e_TNode x_8)))) (s_iaddr (e := e_TNode) (xs := d_.Nodes) rfl rfl hx10) <| un1 (v := (.c (.rop [cI x_8.Parent, .ro false 1 (x_8.Kids.map eI)]))) rfl <| un1 (v := (I x_8.Parent)) rfl <| un1 (v := (B (!decide (x_8.Parent = (-1))))) rfl <| dnil ?_
   refine Sv.cnd rfl h (fun h => ?_) fun h => ?_
   ·refine ssr <| un1 rfl <| dnil <| Sv.ret ?_
    exact rt0 h rfl rfl ⟨rfl, rfl, rfl⟩
   ·refine Sv.skip <| ssr <| un1 rfl <| dnil <| Sv.ret ?_
    exact rt0 h rfl rfl ⟨rfl, rfl, rfl⟩
def a39_c0 : ACode := (.seq (sr [(oP 5 (.faddr 0 (.tmp 2))), (oP 6 (.load false 1 (.tmp 5))), (mV 7 1), (oP 8 (.iaddr 6 (.tmp 6) (.tmp 7))), (oP 9 (.faddr 4 (.tmp 8))), (oP 10 (.load false 1 (.tmp 9))), (oP 11 (.bin .geq (.tmp 10) (kI 0))), (mV 12 11), ⟨(some 13), (.mov (.tmp 4)), (some (12, true))⟩, ⟨(some 14), (.faddr 0 (.tmp 2)), (some (12, true))⟩, ⟨(some 15), (.load false 1 (.tmp 14)), (some (12, true))⟩, ⟨(some 16), (.len (.tmp 15)), (some (12, true))⟩, ⟨(some 17), (.bin .leq (.tmp 13) (.tmp 16)), (some (12, true))⟩, (oP 18 (.pick (.tmp 12) (.tmp 17) kF))]
 (.cond (.tmp 18) .skip (.exit 0)))
 (.seq (.block 1 (.region [(mV 25 4), (oP 26 (.bin .add (.tmp 25) (kI 1))), (mV 4 26)]))
 (.region [(oP 19 (.faddr 0 (.tmp 2))), (oP 20 (.load false 1 (.tmp 19))), (mV 21 1), (oP 22 (.iaddr 6 (.tmp 20) (.tmp 21))), (oP 23 (.faddr 4 (.tmp 22))), (oP 24 (.load false 1 (.tmp 23))), (mV 1 24)])))
def a39 : AFunc := ⟨2, [(.tmp 4)], (sr [(oP 2 (.box (.tmp 0))), (oP 4 (.mov (kI 0)))]
 (.seq (.block 0 (.loop a39_c0))
 (sr [(mV 27 4), (mV 4 27)]
 .ret)))⟩
theorem c39 : compFunc Tryz.prog 39 = some a39 := by kernel_rfl
def Z58 (r : Int) : AV → Heap → Nat → Prop := fun v h' n' => v = (I r) ∧ (h' = e0) ∧ n' = 0
abbrev Z8s (F_ : Int → Option Int) (o : Int) (R_ : St → Prop) : Prop := ∀ (many1 : Int), F_ many1 = some o → ∀ s, Weak 0 s ⟨(upd e0 4 (some (I many1))), e0, 0⟩ → R_ s
abbrev Z59 (d_ : TDoc) (F_ : Nat → Int → Int → Option Int) (o : Int) : Nat → St → Prop := fun k s => ∃ (n_1 : Int), ∃ (many : Int), F_ k n_1 many = some o ∧ s = ⟨(ue [(4, (I many)), (2, (.c (.ref 0 2 0 0))), (1, (I n_1))]), (upd e0 0 (some (.cells 2 [(e_TDoc d_)]))), 1⟩
abbrev Z8t (d_ : TDoc) (F_ : Int → Int → Option Int) (o : Int) (R_ : St → Prop) : Prop := ∀ (n_1 : Int) (many : Int), F_ n_1 many = some o → ∀ s, Weak 0 s ⟨(ue [(4, (I many)), (2, (.c (.ref 0 2 0 0))), (1, (I n_1))]), (upd e0 0 (some (.cells 2 [(e_TDoc d_)]))), 1⟩ → R_ s
noncomputable def Z6 (d_ : TDoc) (K0_ : Int → Option Int) : Nat → Int → Int → Option Int
 | 0, _, _ => none
 | k + 1, n_1, many =>
  (at? d_.Nodes n_1).bind fun x_ =>
  if ((decide (0 ≤ x_.Parent)) && (decide (many ≤ (d_.Nodes.length : Int)))) then
   (at? d_.Nodes n_1).bind fun x_1 =>
   (Z6 d_ K0_ k) x_1.Parent (wi (many + 1))
  else
   K0_ many
theorem Z8u {mL : Int} {Q : AExit → St → Prop} {d_ : TDoc} {K0_ : Int → Option Int} {k : Nat} {n_1 : Int} {many : Int} {o : Int} (h : Z6 d_ K0_ k n_1 many = some o)
  (hK0 : Z8s K0_ o (Q (.exit 0)))
  (hr : ∀ s, Ends a39.results 0 (Z58 o) .ret s → Q .ret s) :
  Sv Tryz.prog (GG mL) 0 (.loop a39_c0) Q ⟨(ue [(4, (I many)), (2, (.c (.ref 0 2 0 0))), (1, (I n_1))]), (upd e0 0 (some (.cells 2 [(e_TDoc d_)]))), 1⟩ := by
 refine Sv.loop (I := Z59 d_ (Z6 d_ K0_) o) (fun k s hI => ?_) ⟨n_1, many, h, rfl⟩
 clear h
 clear many n_1
 obtain ⟨n_1, many, h, rfl⟩ := hI
 cases k with
 | zero => cases h
 | succ k =>
 rw [Z6] at h
 have hself : Z8t d_ (Z6 d_ K0_ k) o (rnd 0 (Z59 d_ (Z6 d_ K0_) o) k Q) := fun n_1 many h s hw => ⟨_, k, hw, Nat.lt_succ_self k, n_1, many, h, rfl⟩
 refine Sv.seq <| ssr <| un1 (v := (.c (.ref 0 2 0 0))) rfl <| un1 (v := (.c (.ro false 6 (d_.Nodes.map e_TNode)))) rfl <| un1 rfl ?_
 obtain ⟨x_, hx1, h⟩ := bnd h
 refine un1 (v := (.c (.rop (e_TNode x_)))) (s_iaddr (e := e_TNode) (xs := d_.Nodes) rfl rfl hx1) <| un1 (v := (.c (.rop [cI x_.Parent, .ro false 1 (x_.Kids.map eI)]))) rfl <| un1 (v := (I x_.Parent)) rfl <| un1 (v := (B (decide (0 ≤ x_.Parent)))) rfl <| un1 rfl ?_
 refine gjoin 6 (d := 18) (v := (B ((decide (0 ≤ x_.Parent)) && (decide (many ≤ (d_.Nodes.length : Int)))))) (fun X hX => ?_) ?_
 ·refine split2 (fun hc1 => ?_) (fun hc1 => ?_)
  ·refine gt rfl <| a1 rfl <| gt rfl <| a1 (v := (.c (.ref 0 2 0 0))) rfl <| gt rfl <| a1 (v := (.c (.ro false 6 (d_.Nodes.map e_TNode)))) rfl <| gt rfl <| a1 (v := (I (d_.Nodes.length : Int))) (s_len (e := e_TNode) (xs := d_.Nodes) rfl) <| gt rfl <| a1 (v := (B (decide (many ≤ (d_.Nodes.length : Int))))) rfl <| un1 (v := (B (decide (many ≤ (d_.Nodes.length : Int))))) rfl <| dnil ?_
   exact hX _ (.putEq (by rw [hc1]; rfl) (by repeat (first | exact .putEq (by rw [hc1]) (.refl _) | refine .skp ?_ rfl)))
  ·repeat (first | refine gu rfl ?_ | refine gs rfl rfl ?_)
   refine un1 (v := (B false)) rfl <| dnil ?_
   exact hX _ (.putEq (by rw [hc1]; rfl) (by repeat (first | exact .putEq (by rw [hc1]) (.refl _) | refine .skp ?_ rfl)))
 refine dnil ?_
 refine Sv.cnd rfl h (fun h => ?_) fun h => ?_
 ·refine Sv.skip <| Sv.seq <| Sv.block <| srg <| un1 rfl <| un1 (v := (I (wi (many + 1)))) rfl <| un1 rfl <| dnil <| srg <| un1 (v := (.c (.ref 0 2 0 0))) rfl <| un1 (v := (.c (.ro false 6 (d_.Nodes.map e_TNode)))) rfl <| un1 rfl ?_
  obtain ⟨x_1, hx2, h⟩ := bnd h
  refine un1 (v := (.c (.rop (e_TNode x_1)))) (s_iaddr (e := e_TNode) (xs := d_.Nodes) rfl rfl hx2) <| un1 (v := (.c (.rop [cI x_1.Parent, .ro false 1 (x_1.Kids.map eI)]))) rfl <| un1 (v := (I x_1.Parent)) rfl <| un1 rfl <| dnil ?_
  exact hself x_1.Parent (wi (many + 1)) h _ (wcn [0] rfl (.cf rfl rfl (.cr rfl rfl rfl (.cf rfl rfl .nil))) (.box (by decide) rfl (blkAs_cells (.sm rfl (.sm rfl .nil))) .nil))
 ·refine Sv.exit ?_
  exact hK0 many h _ (wcn [] rfl (.cf rfl rfl .nil) .nil)
/-- clerestory/dom.up -/
noncomputable def Zv (d_ : TDoc) (n_ : Int) : Option Int :=
 lim fun kk => Z6 d_ (fun (many1 : Int) => 
   some many1) kk n_ 0
theorem Z8v {mL : Int} {d_ : TDoc} {n_ : Int} {r : Int} (h : Zv d_ n_ = some r) : CPure Tryz.prog (GG mL) 39 [(.agg (e_TDoc d_)), (I n_)] (I r) := by
 refine acalls_of_sv hmix c39 (R := Z58 r) ?_
 unfold Zv at h
 refine ssr <| un <| a2v (v := (.c (.ref 0 2 0 0))) (h' := upd _ 0 (some (.cells 2 [(e_TDoc d_)]))) (n' := 1) rfl rfl hcs <| un1 rfl <| dnil <| Sv.seq <| Sv.block ?_
 obtain ⟨kk, h⟩ := lim_some h
 refine Sv.weak (wcn [0] rfl (.cf rfl rfl (.cr rfl rfl rfl (.cf rfl rfl .nil))) (.box (by decide) rfl (blkAs_cells (.sm rfl (.sm rfl .nil))) .nil)) (Z8u h ?_ (fun s hs => hs))
 ·intro many1 h _ hw1
  refine Sv.weak hw1 <| ssr <| un1 rfl <| un1 rfl <| dnil <| Sv.ret ?_
  exact rt0 h rfl rfl ⟨rfl, rfl, rfl⟩
def a16_c0 : ACode := (sr [(oP 23 (.bin .lss (.tmp 22) (.tmp 21)))]
 (.seq (.cond (.tmp 23) .skip (.exit 1))
 (.seq (.block 2 (sr [(mV 24 22), (oP 25 (.iaddr 6 (.tmp 20) (.tmp 22))), (oP 26 (.load true 6 (.tmp 25))), (oP 4 (.box (.const (.agg [(.val (.int .i64 0)), (.str []), (.ro true 2 []), (.str []), (.val (.int .i64 0)), (.ro true 1 [])])))), (mV 3 24), (oN (.store 6 (.tmp 4) (.tmp 26)))]
 (.seq (sr [(oP 27 (.faddr 0 (.tmp 4))), (oP 28 (.load false 1 (.tmp 27))), (oP 29 (.bin .eql (.tmp 28) (kI 1))), (mV 30 3), (oP 31 (.bin .eql (.tmp 30) (kI 0))), (oP 32 (.eqs true false [.b] (.tmp 29) (.tmp 31)))]
 (.cond (.tmp 32) (sr [(oP 2 (.mov (kI 3)))]
 .ret) .skip))
 (sr [(oP 33 (.load true 6 (.tmp 4))), (oP 34 (.call 37 [(.tmp 33)])), (mV 5 34)]
 (sr [(mV 35 5), (oP 36 (.bin .neq (.tmp 35) (kI 0)))]
 (.cond (.tmp 36) (sr [(mV 37 5), (mV 2 37)]
 .ret) .skip))))))
 (.region [(oP 38 (.bin .add (.tmp 22) (kI 1))), (mV 22 38)]))))
def a16_c1 : ACode := (sr [(oP 48 (.bin .lss (.tmp 47) (.tmp 46)))]
 (.seq (.cond (.tmp 48) .skip (.exit 3))
 (.seq (.block 4 (sr [(mV 49 47), (mV 7 49)]
 (sr [(oP 50 (.load true 2 (.tmp 1))), (mV 51 7), (oP 52 (.call 39 [(.tmp 50), (.tmp 51)])), (mV 8 52)]
 (.block 5 (sr [(mV 54 8), (oP 55 (.faddr 0 (.tmp 1))), (oP 56 (.load false 1 (.tmp 55))), (oP 57 (.len (.tmp 56))), (oP 58 (.bin .gtr (.tmp 54) (.tmp 57))), (mV 53 58)]
 (.cond (.tmp 53) (sr [(oP 2 (.mov (kI 8)))]
 .ret) (sr [(mV 60 8), (oP 61 (.bin .gtr (.tmp 60) (kI 40))), (mV 59 61)]
 (.cond (.tmp 59) (sr [(oP 2 (.mov (kI 2)))]
 .ret) .skip))))))))
 (.region [(oP 62 (.bin .add (.tmp 47) (kI 1))), (mV 47 62)]))))
def a16 : AFunc := ⟨1, [(.tmp 2)], (sr [(oP 1 (.box (.tmp 0))), (oP 2 (.mov (kI 0)))]
 (.seq (.block 0 (sr [(oP 10 (.faddr 0 (.tmp 1))), (oP 11 (.load false 1 (.tmp 10))), (oP 12 (.len (.tmp 11))), (oP 13 (.bin .gtr (.tmp 12) (kI 200))), (mV 9 13)]
 (.cond (.tmp 9) (sr [(oP 2 (.mov (kI 2)))]
 .ret) (sr [(oP 15 (.faddr 0 (.tmp 1))), (oP 16 (.load false 1 (.tmp 15))), (oP 17 (.len (.tmp 16))), (oP 18 (.bin .eql (.tmp 17) (kI 0))), (mV 14 18)]
 (.cond (.tmp 14) (sr [(oP 2 (.mov (kI 3)))]
 .ret) .skip)))))
 (.seq (sr [(oP 19 (.faddr 0 (.tmp 1))), (oP 20 (.load false 1 (.tmp 19))), (oP 21 (.len (.tmp 20))), (oP 22 (.mov (kI 0)))]
 (.block 1 (.loop a16_c0)))
 (.seq (sr [(oP 39 (.load true 2 (.tmp 1))), (oP 40 (.call 38 [(.tmp 39)])), (mV 6 40)]
 (sr [(mV 41 6), (oP 42 (.bin .neq (.tmp 41) (kI 0)))]
 (.cond (.tmp 42) (sr [(mV 43 6), (mV 2 43)]
 .ret) .skip)))
 (.seq (sr [(oP 44 (.faddr 0 (.tmp 1))), (oP 45 (.load false 1 (.tmp 44))), (oP 46 (.len (.tmp 45))), (oP 47 (.mov (kI 0)))]
 (.block 3 (.loop a16_c1)))
 (sr [(oP 2 (.mov (kI 0)))]
 .ret))))))⟩
theorem c16 : compFunc Tryz.prog 16 = some a16 := by kernel_rfl
def Z3z (r : Int) : AV → Heap → Nat → Prop := fun v h' n' => v = (I r) ∧ (h' = e0) ∧ n' = 0
abbrev Z8w (d_ : TDoc) (F_ : Unit → Option Int) (o : Int) (R_ : St → Prop) : Prop := ∀ (_ : Unit), F_ () = some o → ∀ s, Weak 0 s ⟨(upd e0 1 (some (.c (.ref 0 2 0 0)))), (upd e0 0 (some (.cells 2 [(e_TDoc d_)]))), 1⟩ → R_ s
abbrev Z5a (d_ : TDoc) (F_ : Nat → Int → Option Int) (o : Int) : Nat → St → Prop := fun k s => ∃ (v22 : Int), F_ k v22 = some o ∧ s = ⟨(ue [(22, (I v22)), (21, (I (d_.Nodes.length : Int))), (20, (.c (.ro false 6 (d_.Nodes.map e_TNode)))), (1, (.c (.ref 0 2 0 0)))]), (upd e0 0 (some (.cells 2 [(e_TDoc d_)]))), 1⟩
abbrev Z8x (d_ : TDoc) (F_ : Int → Option Int) (o : Int) (R_ : St → Prop) : Prop := ∀ (v22 : Int), F_ v22 = some o → ∀ s, Weak 0 s ⟨(ue [(22, (I v22)), (21, (I (d_.Nodes.length : Int))), (20, (.c (.ro false 6 (d_.Nodes.map e_TNode)))), (1, (.c (.ref 0 2 0 0)))]), (upd e0 0 (some (.cells 2 [(e_TDoc d_)]))), 1⟩ → R_ s
noncomputable def Za (d_ : TDoc) (K1_ : Unit → Option Int) : Nat → Int → Option Int
 | 0, _ => none
 | k + 1, v22 =>
  if decide (v22 < (d_.Nodes.length : Int)) then
   (at? d_.Nodes v22).bind fun x_ =>
   if (!((decide (x_.Kind = 1) == decide (v22 = 0)) && true)) then
    some 3
   else
    (Ze x_).bind fun r_ =>
    if (!decide (r_ = 0)) then
     some r_
    else
     (Za d_ K1_ k) (wi (v22 + 1))
  else
   K1_ ()
theorem Z8y {mL : Int} {Q : AExit → St → Prop} {d_ : TDoc} {K1_ : Unit → Option Int} {k : Nat} {v22 : Int} {o : Int} (h : Za d_ K1_ k v22 = some o)
  (hK1 : Z8w d_ K1_ o (Q (.exit 1)))
  (hr : ∀ s, Ends a16.results 0 (Z3z o) .ret s → Q .ret s) :
  Sv Tryz.prog (GG mL) 0 (.loop a16_c0) Q ⟨(ue [(22, (I v22)), (21, (I (d_.Nodes.length : Int))), (20, (.c (.ro false 6 (d_.Nodes.map e_TNode)))), (1, (.c (.ref 0 2 0 0)))]), (upd e0 0 (some (.cells 2 [(e_TDoc d_)]))), 1⟩ := by
 refine Sv.loop (I := Z5a d_ (Za d_ K1_) o) (fun k s hI => ?_) ⟨v22, h, rfl⟩
 clear h
 clear v22
 obtain ⟨v22, h, rfl⟩ := hI
 cases k with
 | zero => cases h
 | succ k =>
 rw [Za] at h
 have hself : Z8x d_ (Za d_ K1_ k) o (rnd 0 (Z5a d_ (Za d_ K1_) o) k Q) := fun v22 h s hw => ⟨_, k, hw, Nat.lt_succ_self k, v22, h, rfl⟩
 refine ssr <| un1 (v := (B (decide (v22 < (d_.Nodes.length : Int))))) rfl <| dnil <| Sv.seq ?_
 refine Sv.cnd rfl h (fun h => ?_) fun h => ?_
 ·refine Sv.skip <| Sv.seq <| Sv.block <| ssr <| un1 rfl ?_
  obtain ⟨x_, hx1, h⟩ := bnd h
  refine un1 (v := (.c (.rop (e_TNode x_)))) (s_iaddr (e := e_TNode) (xs := d_.Nodes) rfl rfl hx1) <| un1 (v := (.agg (e_TNode x_))) rfl <| un <| a2v (v := (.c (.ref 1 6 0 0))) (h' := upd _ 1 (some (.cells 6 [[cI 0, .str [], .ro true 2 [], .str [], cI 0, .ro true 1 []]]))) (n' := 2) rfl rfl hcs <| un1 rfl <| un <| a2n (h' := upd _ 1 (some (.cells 6 [(e_TNode x_)]))) (n' := 2) rfl rfl hcs <| dnil <| Sv.seq <| ssr <| un1 (v := (.c (.ref 1 6 0 0))) rfl <| un1 (v := (I x_.Kind)) rfl <| un1 (v := (B (decide (x_.Kind = 1)))) rfl <| un1 rfl <| un1 (v := (B (decide (v22 = 0)))) rfl <| un1 (v := (B (!((decide (x_.Kind = 1) == decide (v22 = 0)) && true)))) rfl <| dnil ?_
  refine Sv.cnd rfl h (fun h => ?_) fun h => ?_
  ·refine ssr <| un1 rfl <| dnil <| Sv.ret ?_
   exact hr _ (rt0 h rfl rfl ⟨rfl, rfl, rfl⟩)
  ·refine Sv.skip <| ssr <| un1 (v := (.agg (e_TNode x_))) rfl ?_
   obtain ⟨r_, hr1, h⟩ := bnd h
   refine un <| ac_pure (Z8h hr1) rfl rfl rfl <| un1 rfl <| dnil <| ssr <| un1 rfl <| un1 (v := (B (!decide (r_ = 0)))) rfl <| dnil ?_
   refine Sv.cnd rfl h (fun h => ?_) fun h => ?_
   ·refine ssr <| un1 rfl <| un1 rfl <| dnil <| Sv.ret ?_
    exact hr _ (rt0 h rfl rfl ⟨rfl, rfl, rfl⟩)
   ·refine Sv.skip <| srg <| un1 (v := (I (wi (v22 + 1)))) rfl <| un1 rfl <| dnil ?_
    exact hself (wi (v22 + 1)) h _ (wcn [0] rfl (.cf rfl rfl (.cf rfl rfl (.cf rfl rfl (.cr rfl rfl rfl .nil)))) (.box (by decide) rfl (blkAs_cells (.sm rfl (.sm rfl .nil))) .nil))
 ·refine Sv.exit ?_
  exact hK1 () h _ (wcn [0] rfl (.cr rfl rfl rfl .nil) (.box (by decide) rfl (blkAs_cells (.sm rfl (.sm rfl .nil))) .nil))
abbrev Z8z (F_ : Unit → Option Int) (o : Int) (R_ : St → Prop) : Prop := ∀ (_ : Unit), F_ () = some o → ∀ s, Weak 0 s ⟨e0, e0, 0⟩ → R_ s
abbrev Z5b (d_ : TDoc) (F_ : Nat → Int → Option Int) (o : Int) : Nat → St → Prop := fun k s => ∃ (v47 : Int), F_ k v47 = some o ∧ s = ⟨(ue [(47, (I v47)), (46, (I (d_.Nodes.length : Int))), (1, (.c (.ref 0 2 0 0)))]), (upd e0 0 (some (.cells 2 [(e_TDoc d_)]))), 1⟩
abbrev Z90 (d_ : TDoc) (F_ : Int → Option Int) (o : Int) (R_ : St → Prop) : Prop := ∀ (v47 : Int), F_ v47 = some o → ∀ s, Weak 0 s ⟨(ue [(47, (I v47)), (46, (I (d_.Nodes.length : Int))), (1, (.c (.ref 0 2 0 0)))]), (upd e0 0 (some (.cells 2 [(e_TDoc d_)]))), 1⟩ → R_ s
noncomputable def Zf (d_ : TDoc) (K3_ : Unit → Option Int) : Nat → Int → Option Int
 | 0, _ => none
 | k + 1, v47 =>
  if decide (v47 < (d_.Nodes.length : Int)) then
   (Zv d_ v47).bind fun r_2 =>
   if decide ((d_.Nodes.length : Int) < r_2) then
    some 8
   else
    if decide (40 < r_2) then
     some 2
    else
     (Zf d_ K3_ k) (wi (v47 + 1))
  else
   K3_ ()
theorem Z91 {mL : Int} {Q : AExit → St → Prop} {d_ : TDoc} {K3_ : Unit → Option Int} {k : Nat} {v47 : Int} {o : Int} (h : Zf d_ K3_ k v47 = some o)
  (hK3 : Z8z K3_ o (Q (.exit 3)))
  (hr : ∀ s, Ends a16.results 0 (Z3z o) .ret s → Q .ret s) :
  Sv Tryz.prog (GG mL) 0 (.loop a16_c1) Q ⟨(ue [(47, (I v47)), (46, (I (d_.Nodes.length : Int))), (1, (.c (.ref 0 2 0 0)))]), (upd e0 0 (some (.cells 2 [(e_TDoc d_)]))), 1⟩ := by
 refine Sv.loop (I := Z5b d_ (Zf d_ K3_) o) (fun k s hI => ?_) ⟨v47, h, rfl⟩
 clear h
 clear v47
 obtain ⟨v47, h, rfl⟩ := hI
 cases k with
 | zero => cases h
 | succ k =>
 rw [Zf] at h
 have hself : Z90 d_ (Zf d_ K3_ k) o (rnd 0 (Z5b d_ (Zf d_ K3_) o) k Q) := fun v47 h s hw => ⟨_, k, hw, Nat.lt_succ_self k, v47, h, rfl⟩
 refine ssr <| un1 (v := (B (decide (v47 < (d_.Nodes.length : Int))))) rfl <| dnil <| Sv.seq ?_
 refine Sv.cnd rfl h (fun h => ?_) fun h => ?_
 ·refine Sv.skip <| Sv.seq <| Sv.block <| ssr <| un1 rfl <| un1 rfl <| dnil <| ssr <| un1 (v := (.agg (e_TDoc d_))) rfl <| un1 rfl ?_
  obtain ⟨r_2, hr3, h⟩ := bnd h
  refine un <| ac_pure (Z8v hr3) rfl rfl rfl <| un1 rfl <| dnil <| Sv.block <| ssr <| un1 rfl <| un1 (v := (.c (.ref 0 2 0 0))) rfl <| un1 (v := (.c (.ro false 6 (d_.Nodes.map e_TNode)))) rfl <| un1 (v := (I (d_.Nodes.length : Int))) (s_len (e := e_TNode) (xs := d_.Nodes) rfl) <| un1 (v := (B (decide ((d_.Nodes.length : Int) < r_2)))) rfl <| un1 rfl <| dnil ?_
  refine Sv.cnd rfl h (fun h => ?_) fun h => ?_
  ·refine ssr <| un1 rfl <| dnil <| Sv.ret ?_
   exact hr _ (rt0 h rfl rfl ⟨rfl, rfl, rfl⟩)
  ·refine ssr <| un1 rfl <| un1 (v := (B (decide (40 < r_2)))) rfl <| un1 rfl <| dnil ?_
   refine Sv.cnd rfl h (fun h => ?_) fun h => ?_
   ·refine ssr <| un1 rfl <| dnil <| Sv.ret ?_
    exact hr _ (rt0 h rfl rfl ⟨rfl, rfl, rfl⟩)
   ·refine Sv.skip <| srg <| un1 (v := (I (wi (v47 + 1)))) rfl <| un1 rfl <| dnil ?_
    exact hself (wi (v47 + 1)) h _ (wcn [0] rfl (.cf rfl rfl (.cf rfl rfl (.cr rfl rfl rfl .nil))) (.box (by decide) rfl (blkAs_cells (.sm rfl (.sm rfl .nil))) .nil))
 ·refine Sv.exit ?_
  exact hK3 () h _ (wcn [] rfl .nil .nil)
/-- clerestory/dom.Check -/
noncomputable def Z1b (d_ : TDoc) : Option Int :=
 if decide (200 < (d_.Nodes.length : Int)) then
  some 2
 else
  if decide ((d_.Nodes.length : Int) = 0) then
   some 3
  else
   lim fun kk1 => Za d_ (fun (_ : Unit) => 
     (Zz d_).bind fun r_1 =>
     if (!decide (r_1 = 0)) then
      some r_1
     else
      lim fun kk => Zf d_ (fun (_ : Unit) => 
        some 0) kk 0) kk1 0
theorem Z92 {mL : Int} {d_ : TDoc} {r : Int} (h : Z1b d_ = some r) : CPure Tryz.prog (GG mL) 16 [(.agg (e_TDoc d_))] (I r) := by
 refine acalls_of_sv hmix c16 (R := Z3z r) ?_
 unfold Z1b at h
 refine ssr <| un <| a2v (v := (.c (.ref 0 2 0 0))) (h' := upd _ 0 (some (.cells 2 [(e_TDoc d_)]))) (n' := 1) rfl rfl hcs <| un1 rfl <| dnil <| Sv.seq <| Sv.block <| ssr <| un1 (v := (.c (.ref 0 2 0 0))) rfl <| un1 (v := (.c (.ro false 6 (d_.Nodes.map e_TNode)))) rfl <| un1 (v := (I (d_.Nodes.length : Int))) (s_len (e := e_TNode) (xs := d_.Nodes) rfl) <| un1 (v := (B (decide (200 < (d_.Nodes.length : Int))))) rfl <| un1 rfl <| dnil ?_
 refine Sv.cnd rfl h (fun h => ?_) fun h => ?_
 ·refine ssr <| un1 rfl <| dnil <| Sv.ret ?_
  exact rt0 h rfl rfl ⟨rfl, rfl, rfl⟩
 ·refine ssr <| un1 (v := (.c (.ref 0 2 0 0))) rfl <| un1 (v := (.c (.ro false 6 (d_.Nodes.map e_TNode)))) rfl <| un1 (v := (I (d_.Nodes.length : Int))) (s_len (e := e_TNode) (xs := d_.Nodes) rfl) <| un1 (v := (B (decide ((d_.Nodes.length : Int) = 0)))) rfl <| un1 rfl <| dnil ?_
  refine Sv.cnd rfl h (fun h => ?_) fun h => ?_
  ·refine ssr <| un1 rfl <| dnil <| Sv.ret ?_
   exact rt0 h rfl rfl ⟨rfl, rfl, rfl⟩
  ·refine Sv.skip <| Sv.seq <| ssr <| un1 (v := (.c (.ref 0 2 0 0))) rfl <| un1 (v := (.c (.ro false 6 (d_.Nodes.map e_TNode)))) rfl <| un1 (v := (I (d_.Nodes.length : Int))) (s_len (e := e_TNode) (xs := d_.Nodes) rfl) <| un1 rfl <| dnil <| Sv.block ?_
   obtain ⟨kk1, h⟩ := lim_some h
   refine Sv.weak (wcn [0] rfl (.cf rfl rfl (.cf rfl rfl (.cf rfl rfl (.cr rfl rfl rfl .nil)))) (.box (by decide) rfl (blkAs_cells (.sm rfl (.sm rfl .nil))) .nil)) (Z8y h ?_ (fun s hs => hs))
   ·intro _ h _ hw1
    refine Sv.weak hw1 <| Sv.seq <| ssr <| un1 (v := (.agg (e_TDoc d_))) rfl ?_
    obtain ⟨r_1, hr2, h⟩ := bnd h
    refine un <| ac_pure (Z8r hr2) rfl rfl rfl <| un1 rfl <| dnil <| ssr <| un1 rfl <| un1 (v := (B (!decide (r_1 = 0)))) rfl <| dnil ?_
    refine Sv.cnd rfl h (fun h => ?_) fun h => ?_
    ·refine ssr <| un1 rfl <| un1 rfl <| dnil <| Sv.ret ?_
     exact rt0 h rfl rfl ⟨rfl, rfl, rfl⟩
    ·refine Sv.skip <| Sv.seq <| ssr <| un1 (v := (.c (.ref 0 2 0 0))) rfl <| un1 (v := (.c (.ro false 6 (d_.Nodes.map e_TNode)))) rfl <| un1 (v := (I (d_.Nodes.length : Int))) (s_len (e := e_TNode) (xs := d_.Nodes) rfl) <| un1 rfl <| dnil <| Sv.block ?_
     obtain ⟨kk, h⟩ := lim_some h
     refine Sv.weak (wcn [0] rfl (.cf rfl rfl (.cf rfl rfl (.cr rfl rfl rfl .nil))) (.box (by decide) rfl (blkAs_cells (.sm rfl (.sm rfl .nil))) .nil)) (Z91 h ?_ (fun s hs => hs))
     ·intro _ h _ hw2
      refine Sv.weak hw2 <| ssr <| un1 rfl <| dnil <| Sv.ret ?_
      exact rt0 h rfl rfl ⟨rfl, rfl, rfl⟩
def a54 : AFunc := ⟨1, [(.tmp 2)], (sr [(oP 2 (.mov kF))]
 (sr [(mV 3 0), (oP 4 (.bin .geq (.tmp 3) (kI 0))), (mV 5 4), ⟨(some 6), (.mov (.tmp 0)), (some (5, true))⟩, ⟨(some 7), (.bin .lss (.tmp 6) (kI 59)), (some (5, true))⟩, (oP 8 (.pick (.tmp 5) (.tmp 7) kF)), (mV 2 8)]
 .ret))⟩
theorem c54 : compFunc Tryz.prog 54 = some a54 := by kernel_rfl
def Z93 (r : Bool) : AV → Heap → Nat → Prop := fun v h' n' => v = (B r) ∧ (h' = e0) ∧ n' = 0
/-- clerestory/prop.in -/
def Z1c (p_ : Int) : Bool :=
 ((decide (0 ≤ p_)) && (decide (p_ < 59)))
theorem Z94 {mL : Int} (p_ : Int) : CPure Tryz.prog (GG mL) 54 [(I p_)] (B (Z1c p_)) := by
 generalize h : Z1c p_ = o
 refine acalls_of_sv hmix c54 (R := Z93 o) ?_
 unfold Z1c at h
 refine ssr <| un1 rfl <| dnil <| ssr <| un1 rfl <| un1 (v := (B (decide (0 ≤ p_)))) rfl <| un1 rfl ?_
 refine gjoin 3 (d := 8) (v := (B ((decide (0 ≤ p_)) && (decide (p_ < 59))))) (fun X hX => ?_) ?_
 ·refine split2 (fun hc1 => ?_) (fun hc1 => ?_)
  ·refine gt rfl <| a1 rfl <| gt rfl <| a1 (v := (B (decide (p_ < 59)))) rfl <| un1 (v := (B (decide (p_ < 59)))) rfl <| dnil ?_
   exact hX _ (.putEq (by rw [hc1]; rfl) (.skp (.skp (.putEq (by rw [hc1]) (.refl _)) rfl) rfl))
  ·refine gs rfl rfl <| gs rfl rfl <| un1 (v := (B false)) rfl <| dnil ?_
   exact hX _ (.putEq (by rw [hc1]; rfl) (.skp (.skp (.putEq (by rw [hc1]) (.refl _)) rfl) rfl))
 refine un1 rfl <| dnil <| Sv.ret ?_
 subst h
 exact ⟨_, .refl _, _, rfl, ⟨upd e0 0 (some (B ((decide (0 ≤ p_)) && (decide (p_ < 59))))), e0, 0⟩, (B ((decide (0 ≤ p_)) && (decide (p_ < 59)))), weak_canon [] rfl ndl nll nlz (.cf rfl rfl .nil) .nil, rfl, rfl, rfl, rfl⟩
end Go.Proofs.YtaejmblphhjccaaGreatDoorBv
