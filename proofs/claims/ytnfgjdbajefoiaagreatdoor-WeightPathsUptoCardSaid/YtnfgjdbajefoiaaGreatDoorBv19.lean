/- The calculus: an argument of a claim, read as a value of the calculus. It proves nothing of any program. -/
import Derived.Test.YtnfgjdbajefoiaaGreatDoorBv18
import Derived.Deep.Slices
import Derived.SizedLaws
import Derived.OpenShut
import Derived.Carry
namespace Go.Proofs.YtnfgjdbajefoiaaGreatDoorBv
open Go
set_option linter.unusedVariables false
set_option linter.unusedSimpArgs false
def Cat (S:TypeId→List Cel→Prop):List TypeId→List Cel→Prop
 | [],l=>l=[]
 | t::ts,l=>∃ a b,l=a ++ b∧S t a∧Cat S ts b
def Shape (P:Program):Nat→TypeId→List Cel→Prop
 | 0,_,_=>False
 | d+1,t,l=>match P.underlying t with
  | some .bool=>∃ b,l=[.val (.bool b)]
  | some (.int k)=>∃ n,(Lit.int k n).wf=true∧l=[.val (.int k n)]
  | some .string=>∃ s:List UInt8,s.length≤reachBytes∧l=[.str s]
  | some (.slice e)=>∃ xs,l=[.ro false (P.cellsOf e) xs]∧xs.length≤reachBytes∧∀ x ∈ xs,Shape P d e x
  | some (.struct fs)=>Cat (Shape P d) (fs.toList.map (·.type)) l
  | some (.array n e)=>Cat (Shape P d) (List.replicate n e) l
  | _=>False
def tiles (P:Program) (total:Nat):Nat→List (Nat×TypeId)→Bool
 | off,[]=>off == total
 | off,(o,t)::r=>o == off&&tiles P total (off+P.cellsOf t) r
def plainT (P:Program):Nat→TypeId→Bool
 | 0,_=>false
 | d+1,t=>match P.underlying t with
  | some .bool | some (.int _) | some .string=>P.cellsOf t == 1
  | some (.slice e)=>P.cellsOf t == 1&&(decide (1≤P.bytesOf e)&&plainT P d e)
  | some (.struct fs)=>tiles P (P.cellsOf t) 0 (fs.toList.map fun f=>(f.offset,f.type))&&fs.toList.all (fun f=>plainT P d f.type)
  | some (.array n e)=>tiles P (P.cellsOf t) 0 ((List.range n).map fun i=>(i * P.cellsOf e,e))&&plainT P d e
  | _=>false
section
variable {H : Type} {enc : TypeId × Value → H} {P : Program} {base : Nat} {spare : Nat → Bool} {held : Bool} {K : Ctx}
theorem tiles_le {total:Nat}:∀(r:List (Nat×TypeId)) (off:Nat),tiles P total off r=true→off≤total
 | [],off,h=>by simp [tiles] at h; omega
 | (o,t)::r,off,h=>by
  simp only [tiles,Bool.and_eq_true] at h
  have:=tiles_le r _ h.2
  omega
theorem weights_all {e:TypeId}{d:DataW H}{k:Nat}:∀{l:List (DataW H)},d ∈ l→k ∈ d.weights P e→k ∈ DataW.weightsAll P e l
 | [],h,_=>by cases h
 | x::r,h,hk=>by
  simp only [DataW.weightsAll,List.mem_append]
  rcases List.mem_cons.1 h with rfl | h
  ·exact .inl hk
  ·exact .inr (weights_all h hk)
end
end Go.Proofs.YtnfgjdbajefoiaaGreatDoorBv
