/- What is handed in to the law WeightPaths, as plain values. -/
import Derived.Test.YtnfgjdbajefoiaaGreatDoorGWeightPaths2
import Derived.Test.YtnfgjdbajefoiaaGreatDoorBv31
import Derived.Test.YtnfgjdbajefoiaaGreatDoorBv53
namespace Go.Proofs.YtnfgjdbajefoiaaGreatDoorBv
open Go
set_option linter.unusedVariables false
set_option linter.unusedSimpArgs false
attribute [local irreducible] Shape
def ok3 (x:Int):Prop:=(Lit.int .i64 x).wf=true
theorem sh3 (d:Nat) {l:List Cel}(h:Shape Tryz.prog (d+1) 3 l):∃ v:Int,l=eI v∧ok3 v:=by
 rw [Shape_int Tryz.underlying3] at h
 obtain ⟨v,h1,rfl⟩:=h; exact ⟨v,rfl,h1⟩
def ok9 (x:(List UInt8)):Prop:=x.length≤reachBytes
theorem sh9 (d:Nat) {l:List Cel}(h:Shape Tryz.prog (d+1) 9 l):∃ v:(List UInt8),l=eStr v∧ok9 v:=by
 rw [Shape_string Tryz.underlying9] at h
 obtain ⟨v,h1,rfl⟩:=h; exact ⟨v,rfl,h1⟩
def ok5 (x:Int):Prop:=(Lit.int .u8 x).wf=true
theorem sh5 (d:Nat) {l:List Cel}(h:Shape Tryz.prog (d+1) 5 l):∃ v:Int,l=(eK .u8) v∧ok5 v:=by
 rw [Shape_int Tryz.underlying5] at h
 obtain ⟨v,h1,rfl⟩:=h; exact ⟨v,rfl,h1⟩
theorem cells30:Tryz.prog.cellsOf 30=2:=by kernel_rfl
def ok22 (x:(List Raw)):Prop:=x.length≤reachBytes∧∀ y,y ∈ x→∃ D,Shape Tryz.prog D 30 y.c
theorem sh22 (d:Nat) {l:List Cel}(h:Shape Tryz.prog (d+1) 22 l):∃ v:(List Raw),l=(eSl 2 eRaw) v∧ok22 v:=by
 rw [Shape_slice Tryz.underlying22,cells30] at h
 obtain ⟨xs,rfl,h1,h2⟩:=h
 obtain ⟨ps,rfl⟩:=raws_of (xs:=xs) fun x hx=>Shape_free (h2 x hx)
 exact ⟨ps,rfl,by simpa using h1,fun y hy=>⟨d,h2 _ (List.mem_map_of_mem hy)⟩⟩
def ok41 (x:TSTest):Prop:=ok3 x.Kind∧ok9 x.Name∧ok5 x.Op∧ok9 x.Value∧ok3 x.A∧ok3 x.B∧ok22 x.Subs
theorem sh41 (d:Nat) {l:List Cel}(h:Shape Tryz.prog (d+2) 41 l):∃ v:TSTest,l=e_TSTest v∧ok41 v:=by
 rw [Shape_struct Tryz.underlying41] at h
 simp only [Cat,List.map_cons,List.map_nil] at h
 obtain ⟨l0,r0,rfl,h0,l1,r1,rfl,h1,l2,r2,rfl,h2,l3,r3,rfl,h3,l4,r4,rfl,h4,l5,r5,rfl,h5,l6,r6,rfl,h6,rfl⟩:=h
 obtain ⟨v0,rfl,k0⟩:=sh3 (d+0) h0
 obtain ⟨v1,rfl,k1⟩:=sh9 (d+0) h1
 obtain ⟨v2,rfl,k2⟩:=sh5 (d+0) h2
 obtain ⟨v3,rfl,k3⟩:=sh9 (d+0) h3
 obtain ⟨v4,rfl,k4⟩:=sh3 (d+0) h4
 obtain ⟨v5,rfl,k5⟩:=sh3 (d+0) h5
 obtain ⟨v6,rfl,k6⟩:=sh22 (d+0) h6
 exact ⟨⟨v0,v1,v2,v3,v4,v5,v6⟩,rfl,k0,k1,k2,k3,k4,k5,k6⟩
theorem cells41:Tryz.prog.cellsOf 41=7:=by kernel_rfl
def ok38 (x:(List TSTest)):Prop:=x.length≤reachBytes∧∀ y,y ∈ x→ok41 y
theorem sh38 (d:Nat) {l:List Cel}(h:Shape Tryz.prog (d+3) 38 l):∃ v:(List TSTest),l=(eSl 7 e_TSTest) v∧ok38 v:=by
 rw [Shape_slice Tryz.underlying38,cells41] at h
 obtain ⟨xs,rfl,h1,h2⟩:=h
 obtain ⟨ps,rfl,h3⟩:=map_ofP (f:=e_TSTest) (ok:=ok41) (xs:=xs) fun x hx=>sh41 d (h2 x hx)
 exact ⟨ps,rfl,by simpa using h1,h3⟩
theorem cells38:Tryz.prog.cellsOf 38=1:=by kernel_rfl
def ok27 (x:(List (List TSTest))):Prop:=x.length≤reachBytes∧∀ y,y ∈ x→ok38 y
theorem sh27 (d:Nat) {l:List Cel}(h:Shape Tryz.prog (d+4) 27 l):∃ v:(List (List TSTest)),l=(eSl 1 (eSl 7 e_TSTest)) v∧ok27 v:=by
 rw [Shape_slice Tryz.underlying27,cells38] at h
 obtain ⟨xs,rfl,h1,h2⟩:=h
 obtain ⟨ps,rfl,h3⟩:=map_ofP (f:=(eSl 7 e_TSTest)) (ok:=ok38) (xs:=xs) fun x hx=>sh38 d (h2 x hx)
 exact ⟨ps,rfl,by simpa using h1,h3⟩
theorem cells5:Tryz.prog.cellsOf 5=1:=by kernel_rfl
def ok28 (x:(List Int)):Prop:=x.length≤reachBytes∧∀ y,y ∈ x→ok5 y
theorem sh28 (d:Nat) {l:List Cel}(h:Shape Tryz.prog (d+2) 28 l):∃ v:(List Int),l=(eSl 1 (eK .u8)) v∧ok28 v:=by
 rw [Shape_slice Tryz.underlying28,cells5] at h
 obtain ⟨xs,rfl,h1,h2⟩:=h
 obtain ⟨ps,rfl,h3⟩:=map_ofP (f:=(eK .u8)) (ok:=ok5) (xs:=xs) fun x hx=>sh5 d (h2 x hx)
 exact ⟨ps,rfl,by simpa using h1,h3⟩
def ok30 (x:TSPath):Prop:=ok27 x.Steps∧ok28 x.Joins
theorem sh30 (d:Nat) {l:List Cel}(h:Shape Tryz.prog (d+5) 30 l):∃ v:TSPath,l=e_TSPath v∧ok30 v:=by
 rw [Shape_struct Tryz.underlying30] at h
 simp only [Cat,List.map_cons,List.map_nil] at h
 obtain ⟨l0,r0,rfl,h0,l1,r1,rfl,h1,rfl⟩:=h
 obtain ⟨v0,rfl,k0⟩:=sh27 (d+0) h0
 obtain ⟨v1,rfl,k1⟩:=sh28 (d+2) h1
 exact ⟨⟨v0,v1⟩,rfl,k0,k1⟩
theorem raw30 {D:Nat}{y:List Cel}(h:Shape Tryz.prog D 30 y):∃ x:TSPath,y=e_TSPath x∧ok30 x:=sh30 D (Shape_mono h (Nat.le_add_right D 5))
def PureWeightPaths:Prop:=∀(a0:TSPath),ok30 a0→bulkVs [.agg (e_TSPath a0)]≤1048576→Z6k a0=some true
theorem lawWeightPaths {mL:Int}(pureWeightPaths:PureWeightPaths) (xs:List AV) (hl:xs.length=1) (hs:∀(i:Nat) (t:TypeId) (x:AV),([30]:List TypeId)[i]? = some t→xs[i]? = some x→ShapeW Tryz.prog t x) (hb:bulkVs xs≤1048576):CPure Tryz.prog (GG mL) 4 xs (.c (.val (.bool true))):=by
 match xs,hl,hs,hb with
 | [x0],_,hs,hb =>
  have h0:=hs 0 30 x0 (by simp) (by simp)
  rw [ShapeW_struct Tryz.underlying30] at h0
  obtain ⟨l0,rfl,D0,h0⟩:=h0
  obtain ⟨a0,rfl,k0⟩:=sh30 D0 (Shape_mono h0 (Nat.le_add_right D0 5))
  exact Zhz (pureWeightPaths a0 k0 hb)
end Go.Proofs.YtnfgjdbajefoiaaGreatDoorBv
-- squeezed
