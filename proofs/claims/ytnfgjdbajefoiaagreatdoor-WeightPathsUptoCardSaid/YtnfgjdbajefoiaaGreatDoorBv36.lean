/- The calculus: the library's contracts, met: strings.Trim, TrimRight (a cutset of ASCII). It proves nothing of any program. -/
import Derived.Test.YtnfgjdbajefoiaaGreatDoorBv30
namespace Go.Proofs.YtnfgjdbajefoiaaGreatDoorBv
open Go Go.RowKit Go.Proofs
set_option linter.unusedVariables false
set_option linter.unusedSimpArgs false
def trim? (s t:List UInt8):Option (List UInt8):=if s.length≤9223372036854775807∧t.length<4294967281∧t.all (fun b=>decide (b.toNat<128))=true then some (Lib.trimS s t) else none
theorem trim_ok {P:Program}{ρ:Shelf.Ren}{Γ:Glob}(L:Lays.n160 P ρ) (h116:(P.info? (ρ.t 116)).map (fun i=>(i.zero,i.size))=some (some (.agg (Array.replicate 256 (.bool false))),256)) {s t r:List UInt8}(h:trim? s t=some r) :
  CPure P Γ (ρ.f 160) [.c (.str s),.c (.str t)] (.c (.str r)):=by
 unfold trim? at h
 split at h
 ·rename_i hn
  cases h
  refine cpure_of fun E w μ κ cargs H hsz hrel=>?_
  obtain ⟨b,rfl,e0⟩:=relS (hrel 0 _ rfl)
  obtain ⟨u,rfl,e1⟩:=relS (hrel 1 _ rfl)
  rw [arr2 hsz,e0,e1]
  have hb:b.data.toList.length=b.size:=rfl
  have hu:u.data.toList.length=u.size:=rfl
  refine (Any.strings_Trim_laid L h116 b u w (by omega) (by omega) fun j x hx=>?_).mono ?_
  ·have:=List.all_eq_true.1 hn.2.2 x (List.mem_of_getElem? hx)
   simpa using this
  rintro e w' ⟨rfl,hB⟩
  exact ⟨_,rfl,fun K=>.c (.str (by simp)),below_grown hB⟩
 ·cases h
end Go.Proofs.YtnfgjdbajefoiaaGreatDoorBv
