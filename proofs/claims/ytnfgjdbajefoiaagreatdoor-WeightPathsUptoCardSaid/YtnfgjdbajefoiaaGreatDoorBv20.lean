/- The calculus: from a pure function's contract to a claim's call, over whatever memory. It proves nothing of any program. -/
import Derived.Test.YtnfgjdbajefoiaaGreatDoorBv19
namespace Go.Proofs.YtnfgjdbajefoiaaGreatDoorBv
open Go
set_option linter.unusedVariables false
def ShapeV (P:Program) (t:TypeId) (v:AV):Prop:=match P.underlying t with
 | some (.struct _) | some (.array _ _)=>∃ l,v = .agg l∧Shape P 12 t l
 | _=>∃ c,v = .c c∧Shape P 12 t [c]
section
variable {P : Program} {d : Nat} {t : TypeId} {l : List Cel}
theorem Shape_int {k:IntKind}(hu:P.underlying t=some (.int k)):Shape P (d+1) t l=∃ n,(Lit.int k n).wf=true∧l=[.val (.int k n)]:=by rw [Shape,hu]
theorem Shape_string (hu:P.underlying t=some .string):Shape P (d+1) t l=∃ s:List UInt8,s.length≤reachBytes∧l=[.str s]:=by rw [Shape,hu]
theorem Shape_slice {e:TypeId}(hu:P.underlying t=some (.slice e)):Shape P (d+1) t l=∃ xs,l=[.ro false (P.cellsOf e) xs]∧xs.length≤reachBytes∧∀ x ∈ xs,Shape P d e x:=by rw [Shape,hu]
theorem Shape_struct {fs:Array Field}(hu:P.underlying t=some (.struct fs)):Shape P (d+1) t l=Cat (Shape P d) (fs.toList.map (·.type)) l:=by rw [Shape,hu]
end
section
variable {H : Type} {enc : TypeId × Value → H} {P : Program} {W : World}
abbrev entry (W:World):Ctx:=ctx (fun _=>False) W (fun _=>0) (fun _=>0) (fun _=>none) 0
theorem entry_S (k:Nat) (h:k<W.heap.size):(entry W).S k:=⟨h,fun h=>h,fun b x h=>by cases h⟩
theorem entry_ok {Γ:Glob}(hg:∀ g,GlobOK (entry W) g (Γ g)):HeapOK Γ (fun _=>False) W (fun _=>0) (fun _=>0) (fun _=>none) 0 :=
 ⟨fun k h=>h.elim,fun b x h=>(by cases h),fun b b' x x' h=>(by cases h),fun b x h=>(by cases h),fun b x h=>(by cases h),hg⟩
theorem glob_none (g:Nat):GlobOK (entry W) g [] :=
 ⟨.rop (fun _=>undef) (fun h=>absurd rfl h) (fun j x h=>by simp at h) (fun j x h=>by simp at h),fun h=>absurd rfl h⟩
theorem from_below {W' : World}{μ κ:Nat→Nat}{h:Heap}{n:Nat}(F:From (fun _=>False) (entry W) (ctx (fun _=>False) W' μ κ h n)):RowKit.Below W.heap.size W W' :=
 ⟨F.os,F.tape,F.output,F.size,fun k hk=>F.le.heap k (entry_S k hk)⟩
end
theorem map_ofP {α β:Type}{f:α→β}{ok:α→Prop}:∀{xs:List β},(∀ x ∈ xs,∃ p,x=f p∧ok p)→∃ ps:List α,xs=ps.map f∧∀ p,p ∈ ps→ok p
 | [],_=>⟨[],rfl,by simp⟩
 | x::xs,h=>by
  obtain ⟨p,rfl,hp⟩:=h x (List.mem_cons_self ..)
  obtain ⟨ps,rfl,hq⟩:=map_ofP (xs:=xs) fun y hy=>h y (List.mem_cons_of_mem _ hy)
  refine ⟨p::ps,rfl,fun r hr=>?_⟩
  rcases List.mem_cons.1 hr with rfl | hr
  ·exact hp
  ·exact hq r hr
attribute [irreducible] ShapeV
end Go.Proofs.YtnfgjdbajefoiaaGreatDoorBv
