/- The calculus: strconv.Atoi, and how strconv tells an error, by the shelf's contracts. It proves nothing of any program. -/
import Derived.Test.YtnfgjdbajefoiaaGreatDoorBv30
import Derived.Test.YtnfgjdbajefoiaaGreatDoorBv40
import Derived.Shelf.Strconv.AtoiAll
import Derived.Shelf.Strconv.ToError
import Derived.Shelf.Strconv.ToErrorRange
namespace Go.Proofs.YtnfgjdbajefoiaaGreatDoorBv
open Go Go.RowKit Go.Proofs
set_option linter.unusedVariables false
set_option linter.unusedSimpArgs false
theorem glob_opq {Γ:Glob}{E:Nat→Prop}{w:World}{μ κ:Nat→Nat}{h:Heap}{n:Nat}(H:HeapOK Γ E w μ κ h n) {g:Nat}(hc:Γ g=[.opq]):∃ T v,w.cell? ⟨g,0,none⟩=some (.iface T v):=by
 obtain ⟨h1,_⟩:=H.glob g
 rw [hc] at h1
 cases h1 with
 | rop f hs hcell hrel =>
  have e1:=hcell 0 _ rfl
  obtain ⟨T,v,e2⟩:=relC_opq (hrel 0 _ rfl)
  rw [e2] at e1
  exact ⟨T,v,e1⟩
/-! ### strconv.toError, of a wrong text or one out of range -/
/-! ### strconv.Atoi -/
def atoi? (s:List UInt8):Option (Int×Bool):=if s.length≤281474976710656 then some (match Lib.atoiAll s with
 | .ok v=>(v,false)
 | .syntax=>(0,true)
 | .range=>(Lib.atoiSat s,true)) else none
theorem atoi_ok {P:Program}{ρ:Shelf.Ren}{Γ:Glob}(L:LaysC.n172 P ρ) (h15:Γ (ρ.g 15)=[.opq]) (h16:Γ (ρ.g 16)=[.opq]) {s:List UInt8}{r:Int×Bool}(h:atoi? s=some r) :
  CPure P Γ (ρ.f 172) [.c (.str s)] (.tup [.c (.val (.int .i64 r.1)),.c (errC r.2)]):=by
 unfold atoi? at h
 split at h
 ·rename_i hn
  cases h
  refine cpure_of fun E w μ κ cargs H hsz hrel=>?_
  obtain ⟨b,rfl,e0⟩:=relS (hrel 0 _ rfl)
  have hu:b.data.toList.length=b.size:=rfl
  obtain ⟨T5,v5,g5⟩:=glob_opq H h15
  obtain ⟨T6,v6,g6⟩:=glob_opq H h16
  rw [arr1 hsz,e0]
  cases hx:Lib.atoiAll b.data.toList with
  | ok v =>
   refine (Any.strconv_Atoi_ok L b (by omega) v hx w).mono ?_
   rintro e w' ⟨rfl,hw⟩
   refine ⟨_,rfl,fun K=>.tup rfl fun i x hi=>?_,?_⟩
   ·match i,hi with
    | 0,hi=>cases hi; exact .c (.val rfl)
    | 1,hi=>cases hi; exact .c (.val rfl)
   ·rcases hw with rfl | ⟨t,rfl⟩
    ·exact same_world
    ·exact below_grown (Lib.bytesWorld_below _ _ _)
  | «syntax» =>
   refine (Any.strconv_Atoi_syntax L b (by omega) hx _ w g5 (.inr ⟨T5,v5,rfl⟩)).mono ?_
   rintro e w' ⟨N,rfl,_,_,hB⟩
   refine ⟨_,rfl,fun K=>.tup rfl fun i x hi=>?_,below_grown hB⟩
   match i,hi with
   | 0,hi=>cases hi; exact .c (.val rfl)
   | 1,hi=>cases hi; exact .c .opq
  | range =>
   refine (Any.strconv_Atoi_range L b (by omega) hx _ w g6 (.inr ⟨T6,v6,rfl⟩)).mono ?_
   rintro e w' ⟨N,rfl,_,_,hB⟩
   refine ⟨_,rfl,fun K=>.tup rfl fun i x hi=>?_,below_grown hB⟩
   match i,hi with
   | 0,hi=>cases hi; exact .c (.val rfl)
   | 1,hi=>cases hi; exact .c .opq
 ·cases h
end Go.Proofs.YtnfgjdbajefoiaaGreatDoorBv
