/- The calculus: the library's contracts, met: strings.IndexAny (of ASCII bytes), strings.Cut. It proves nothing of any program. -/
import Derived.Test.YtnfgjdbajefoiaaGreatDoorBv30
import Derived.Test.YtnfgjdbajefoiaaGreatDoorBv27
import Derived.Test.YtnfgjdbajefoiaaGreatDoorBv47
import Derived.Shelf.Strings.IndexAnyAll
import Derived.Shelf.Strings.Cut
namespace Go.Proofs.YtnfgjdbajefoiaaGreatDoorBv
open Go Go.RowKit Go.Proofs
set_option linter.unusedVariables false
set_option linter.unusedSimpArgs false
/-! ### strings.Cut -/
theorem tup3 {K:Ctx}{a b c:AV}{u v x:Value}(ha:RelV K a u) (hb:RelV K b v) (hc:RelV K c x):RelV K (.tup [a,b,c]) (.tuple #[u,v,x]):=by
 refine .tup rfl fun i y hi=>?_
 match i,hi with
 | 0,hi=>cases hi; exact ha
 | 1,hi=>cases hi; exact hb
 | 2,hi=>cases hi; exact hc
def cut? (s t:List UInt8):Option (List UInt8×List UInt8×Bool):=if s.length<4294967281 then some (Lib.cut s t) else none
theorem cut_ok {P:Program}{ρ:Shelf.Ren}{Γ:Glob}{m:Int}(L:Lays.n145 P ρ) (hc:Γ (ρ.g 1)=[.val (.int .i64 m)]) {s t:List UInt8}{r:List UInt8×List UInt8×Bool}(h:cut? s t=some r) :
  CPure P Γ (ρ.f 145) [.c (.str s),.c (.str t)] (.tup [.c (.str r.1),.c (.str r.2.1),.c (.val (.bool r.2.2))]):=by
 unfold cut? at h
 split at h
 ·rename_i hn
  cases h
  refine cpure_of fun E w μ κ cargs H hsz hrel=>?_
  obtain ⟨b,rfl,e0⟩:=relS (hrel 0 _ rfl)
  obtain ⟨u,rfl,e1⟩:=relS (hrel 1 _ rfl)
  rw [arr2 hsz,e0,e1]
  have hb:b.data.toList.length=b.size:=rfl
  refine (Any.strings_Cut L b u m w (by omega) (glob_cell H hc)).mono ?_
  rintro e w' ⟨rfl,k,rfl⟩
  exact ⟨_,rfl,fun K=>tup3 (.c (.str (by simp))) (.c (.str (by simp))) (.c (.val rfl)),same_world⟩
 ·cases h
end Go.Proofs.YtnfgjdbajefoiaaGreatDoorBv
