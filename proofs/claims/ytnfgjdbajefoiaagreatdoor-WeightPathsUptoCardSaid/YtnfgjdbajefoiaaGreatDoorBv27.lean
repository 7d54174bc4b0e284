/- The calculus: the library's contracts, met: texts searched and cut; package variables that may hold whatever they like. It proves nothing of any program. -/
import Derived.Test.YtnfgjdbajefoiaaGreatDoorBv26
import Derived.Shelf.Strings.Split
import Derived.Shelf.Strings.Search3
import Derived.Shelf.Vars
import Derived.Handed
namespace Go.Proofs.YtnfgjdbajefoiaaGreatDoorBv
open Go
set_option linter.unusedVariables false
set_option linter.unusedSimpArgs false
/-! ### a package variable of the library's that no one lists -/
theorem glob_int {P:Program}{W:World}{g:Nat}{t:TypeId}{zero:Array Value}{k:IntKind}(h:W.ShapedOpen P) (hg:g<P.globals.size)
  (h0:((begin P (fun _ _=>0) default).world.heap[g]?).bind Obj.row? = some (zero,t)) (hz:zero.size=1) (hb:P.buildable t=true) (hc:P.cellTypes P.depth t=some [t]) (hu:P.underlying t=some (.int k)) :
  ∃ m,GlobOK (entry W) g [.val (.int k m)]:=by
 obtain ⟨m,hm⟩:=cell_of_shapedOpen_int h hg h0 hz hb hc hu
 obtain ⟨cs,hh,hs,_⟩:=h.1 g zero t hg h0
 refine ⟨m,.rop (fun _=>.int k m) (fun _=>entry_S _ (Array.getElem?_eq_some_iff.1 hh).1) (fun j x hx=>?_) (fun j x hx=>?_),fun _=>⟨cs,t,_,hh,by rw [hs,hz]; rfl⟩⟩
 ·cases j with
  | zero=>exact hm
  | succ j=>simp at hx
 ·cases j with
  | zero=>simp at hx; subst hx; exact .val rfl
  | succ j=>simp at hx
theorem glob_cell {Γ:Glob}{E:Nat→Prop}{w:World}{μ κ:Nat→Nat}{h:Heap}{n:Nat}(H:HeapOK Γ E w μ κ h n) {g:Nat}{k:IntKind}{m:Int}(hc:Γ g=[.val (.int k m)]):w.cell? ⟨g,0,none⟩=some (.int k m):=by
 obtain ⟨h1,_⟩:=H.glob g
 rw [hc] at h1
 cases h1 with
 | rop f hs hcell hrel =>
  have e1:=hcell 0 _ rfl
  have e2:=relC_vv (hrel 0 _ rfl)
  rw [e2] at e1
  exact e1
/-! ### strings.Contains, of one byte -/
/-! ### strings.Split -/
def splitL (s sep:List UInt8):List (List UInt8):=(Lib.splitB ⟨sep.toArray⟩ 0 (Lib.countB ⟨s.toArray⟩ ⟨sep.toArray⟩) ⟨s.toArray⟩).map (·.data.toList)
def split? (s sep:List UInt8):Option (List (List UInt8)):=if s.length<4294967281∧1≤sep.length then some (splitL s sep) else none
end Go.Proofs.YtnfgjdbajefoiaaGreatDoorBv
