/- The calculus: a package variable that is listed as an error. It proves nothing of any program. -/
import Derived.Test.YtnfgjdbajefoiaaGreatDoorBv27
import Derived.Test.YtnfgjdbajefoiaaGreatDoorBv40
namespace Go.Proofs.YtnfgjdbajefoiaaGreatDoorBv
open Go
set_option linter.unusedVariables false
set_option linter.unusedSimpArgs false
section
variable {P : Program} {W : World}
theorem trod_err {H:Type}{enc:TypeId×Value→H}{w:World}{base:Nat}{spare:Nat→Bool}{held:Bool}{fuel:Nat}{t:TypeId}{ms:Array (String×TypeId)}{cs:List Value}{nm:String}{d:DataW H}{p:List MemPlace}(ht:P.underlying t=some (.interface ms))
  (h:DataW.trod enc P w base spare held fuel t cs=some (.iface nm d,p)):∃ u v,cs=[.iface u v]:=by
 cases fuel with
 | zero=>simp [DataW.trod] at h
 | succ n =>
  unfold DataW.trod at h
  rw [ht] at h
  split at h <;> simp_all
theorem err_one {n:String}{g:Nat}{cs:Array Value}{u:TypeId}{v:Value}(hg:P.globalNamed n=some g) (hv:W.var? P n=some cs) (hc:cs.toList=[.iface u v]):GlobOK (entry W) g [.opq]:=by
 refine ⟨.rop (fun j=>cs.toList.getD j undef) (fun hne=>entry_S _ ?_) (fun j x hx=>?_) (fun j x hx=>?_),fun _=>?_⟩
 ·simp only [World.var?,hg,Option.bind_some] at hv
  split at hv
  ·rename_i c1 c2 c3 hh
   exact (Array.getElem?_eq_some_iff.1 hh).1
  ·cases hv
 ·have hj:j<cs.toList.length:=by rw [hc]; exact (List.getElem?_eq_some_iff.1 hx).1
  have:=World.var?_cell hg hv j
  have e:(⟨g,0,none⟩:Addr).add j=⟨g,j,none⟩:=by simp [Addr.add]; omega
  rw [e]
  refine this.trans ?_
  rw [← Array.getElem?_toList,List.getElem?_eq_getElem hj,List.getD,List.getElem?_eq_getElem hj]
  rfl
 ·rw [hc]
  cases j with
  | zero=>simp at hx; subst hx; exact .opq
  | succ j=>simp at hx
 ·simp only [World.var?,hg,Option.bind_some] at hv
  split at hv
  ·rename_i c1 c2 c3 hh
   cases hv
   exact ⟨_,_,_,hh,by rw [← Array.length_toList,hc]; rfl⟩
  ·cases hv
theorem err_all {n:String}{nm:String}{d:DataW Unit}{g:Nat}{t:TypeId}{ms:Array (String×TypeId)}(hg:P.globalNamed n=some g) (ht:(P.globals[g]?).map (·.type)=some t) (hu:P.underlying t=some (.interface ms)) :
  ∀{laid:List (String×DataW Unit)}{ps:List MemPlace},DataW.LaidVars P W laid ps→(n,.iface nm d) ∈ laid→GlobOK (entry W) g [.opq]
 | [],_,_,h=>by cases h
 | (n',d')::r,ps,h,hm=>by
  obtain ⟨g',t',cs,fuel,p,q,h1,h2,h3,h4,h5,_⟩:=h
  rcases List.mem_cons.1 hm with h | h
  ·cases h
   rw [hg] at h1
   cases h1
   rw [ht] at h2
   cases h2
   obtain ⟨u,v,hc⟩:=trod_err hu h4
   exact err_one hg h3 hc
  ·exact err_all hg ht hu h5 h
theorem err_met {n:String}{nm:String}{d:DataW Unit}{g:Nat}{t:TypeId}{ms:Array (String×TypeId)}{laid:List (String×DataW Unit)}(h:laidMet P laid W) (hm:(n,.iface nm d) ∈ laid) (hg:P.globalNamed n=some g) (ht:(P.globals[g]?).map (·.type)=some t)
  (hu:P.underlying t=some (.interface ms)):GlobOK (entry W) g [.opq]:=by
 obtain ⟨ps,h1,_⟩:=h
 exact err_all hg ht hu h1 hm
end
end Go.Proofs.YtnfgjdbajefoiaaGreatDoorBv
