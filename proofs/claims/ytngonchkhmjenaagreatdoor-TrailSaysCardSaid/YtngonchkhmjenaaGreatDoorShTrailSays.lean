/- What is handed in to the law TrailSays, as plain values. -/
import Derived.Test.YtngonchkhmjenaaGreatDoorGTrailSays2
namespace Go.Proofs.YtngonchkhmjenaaGreatDoorBv
open Go
set_option linter.unusedVariables false
set_option linter.unusedSimpArgs false
attribute [local irreducible] Shape
def ok9 (x:(List UInt8)):Prop:=x.length≤reachBytes
theorem sh9 (d:Nat) {l:List Cel}(h:Shape Tryz.prog (d+1) 9 l):∃ v:(List UInt8),l=eStr v∧ok9 v:=by
 rw [Shape_string Tryz.underlying9] at h
 obtain ⟨v,h1,rfl⟩:=h; exact ⟨v,rfl,h1⟩
def ok3 (x:Int):Prop:=(Lit.int .i64 x).wf=true
theorem sh3 (d:Nat) {l:List Cel}(h:Shape Tryz.prog (d+1) 3 l):∃ v:Int,l=eI v∧ok3 v:=by
 rw [Shape_int Tryz.underlying3] at h
 obtain ⟨v,h1,rfl⟩:=h; exact ⟨v,rfl,h1⟩
def ok36 (x:TJEntry):Prop:=ok9 x.Url∧ok9 x.State∧ok3 x.Doc
theorem sh36 (d:Nat) {l:List Cel}(h:Shape Tryz.prog (d+2) 36 l):∃ v:TJEntry,l=e_TJEntry v∧ok36 v:=by
 rw [Shape_struct Tryz.underlying36] at h
 simp only [Cat,List.map_cons,List.map_nil] at h
 obtain ⟨l0,r0,rfl,h0,l1,r1,rfl,h1,l2,r2,rfl,h2,rfl⟩:=h
 obtain ⟨v0,rfl,k0⟩:=sh9 (d+0) h0
 obtain ⟨v1,rfl,k1⟩:=sh9 (d+0) h1
 obtain ⟨v2,rfl,k2⟩:=sh3 (d+0) h2
 exact ⟨⟨v0,v1,v2⟩,rfl,k0,k1,k2⟩
theorem cells36:Tryz.prog.cellsOf 36=3:=by kernel_rfl
def ok22 (x:(List TJEntry)):Prop:=x.length≤reachBytes∧∀ y,y ∈ x→ok36 y
theorem sh22 (d:Nat) {l:List Cel}(h:Shape Tryz.prog (d+3) 22 l):∃ v:(List TJEntry),l=(eSl 3 e_TJEntry) v∧ok22 v:=by
 rw [Shape_slice Tryz.underlying22,cells36] at h
 obtain ⟨xs,rfl,h1,h2⟩:=h
 obtain ⟨ps,rfl,h3⟩:=map_ofP (f:=e_TJEntry) (ok:=ok36) (xs:=xs) fun x hx=>sh36 d (h2 x hx)
 exact ⟨ps,rfl,by simpa using h1,h3⟩
def ok24 (x:TJTrail):Prop:=ok22 x.Entries∧ok3 x.At
theorem sh24 (d:Nat) {l:List Cel}(h:Shape Tryz.prog (d+4) 24 l):∃ v:TJTrail,l=e_TJTrail v∧ok24 v:=by
 rw [Shape_struct Tryz.underlying24] at h
 simp only [Cat,List.map_cons,List.map_nil] at h
 obtain ⟨l0,r0,rfl,h0,l1,r1,rfl,h1,rfl⟩:=h
 obtain ⟨v0,rfl,k0⟩:=sh22 (d+0) h0
 obtain ⟨v1,rfl,k1⟩:=sh3 (d+2) h1
 exact ⟨⟨v0,v1⟩,rfl,k0,k1⟩
def PureTrailSays:Prop:=∀(a0:TJTrail) (a1:(List UInt8)) (a2:(List UInt8)) (a3:Int),ok24 a0→ok9 a1→ok9 a2→ok3 a3→Z64 a0 a1 a2 a3=some true
theorem lawTrailSays {mL:Int}(pureTrailSays:PureTrailSays) (xs:List AV) (hl:xs.length=4) (hs:∀(i:Nat) (t:TypeId) (x:AV),([24,9,9,3]:List TypeId)[i]? = some t→xs[i]? = some x→ShapeV Tryz.prog t x):CPure Tryz.prog (GG mL) 3 xs (.c (.val (.bool true))):=by
 match xs,hl,hs with
 | [x0,x1,x2,x3],_,hs =>
  have h0:=hs 0 24 x0 (by simp) (by simp)
  rw [ShapeV_struct Tryz.underlying24] at h0
  obtain ⟨l0,rfl,h0⟩:=h0
  obtain ⟨a0,rfl,k0⟩:=sh24 8 h0
  have h1:=hs 1 9 x1 (by simp) (by simp)
  rw [ShapeV_string Tryz.underlying9] at h1
  obtain ⟨l1,rfl,h1⟩:=h1
  obtain ⟨a1,e1,k1⟩:=sh9 11 h1
  cases e1
  have h2:=hs 2 9 x2 (by simp) (by simp)
  rw [ShapeV_string Tryz.underlying9] at h2
  obtain ⟨l2,rfl,h2⟩:=h2
  obtain ⟨a2,e2,k2⟩:=sh9 11 h2
  cases e2
  have h3:=hs 3 3 x3 (by simp) (by simp)
  rw [ShapeV_int Tryz.underlying3] at h3
  obtain ⟨l3,rfl,h3⟩:=h3
  obtain ⟨a3,e3,k3⟩:=sh3 11 h3
  cases e3
  exact Zgi (pureTrailSays a0 a1 a2 a3 k0 k1 k2 k3)
end Go.Proofs.YtngonchkhmjenaaGreatDoorBv
-- squeezed
