/- The calculus: the library's contracts, met. It proves nothing of any program. -/
import Derived.Test.YtnfgjdbajefoiaaGreatDoorBv24
import Derived.Test.YtnfgjdbajefoiaaGreatDoorBv23
import Derived.Shelf.Strconv.Itoa3
import Derived.Shelf.Small.Wraps
namespace Go.Proofs.YtnfgjdbajefoiaaGreatDoorBv
open Go Go.RowKit
set_option linter.unusedVariables false
set_option linter.unusedSimpArgs false
section
variable {Γ : Glob} {E : Nat → Prop} {w w' : World} {μ κ : Nat → Nat} {h : Heap} {n : Nat}
theorem grown_ok (H:HeapOK Γ E w μ κ h n) (hs:w.heap.size≤w'.heap.size) (hh:∀ k,k<w.heap.size→w'.heap[k]? = w.heap[k]?) (ho:w'.os=w.os) (ht:w'.tape=w.tape) (hu:w'.output=w.output) :
  HeapOK Γ E w' μ κ h n∧From E (ctx E w μ κ h n) (ctx E w' μ κ h n):=by
 have L:Ctx.Le (ctx E w μ κ h n) (ctx E w' μ κ h n):=⟨Nat.le_refl _,fun _ _=>rfl,fun _ _=>rfl,fun k hk=>⟨Nat.lt_of_lt_of_le hk.1 hs,hk.2.1,hk.2.2⟩,fun k hk=>hh k hk.1⟩
 exact ⟨⟨fun k hk=>Nat.lt_of_lt_of_le (H.lt k hk) hs,H.bound,H.inj,H.res,fun b x hb=>(H.blk b x hb).mono L (H.bound b x hb) (hh _ (H.blk b x hb).lt),fun g=>(H.glob g).mono L⟩,
  ⟨L,hs,ho,ht,hu,fun k _ hk=>hh k hk⟩⟩
end
section
variable {P : Program} {Γ : Glob} {f : FuncId} {xs : List AV} {r : AV}
theorem cpure_of (hc:∀(E:Nat→Prop) (w:World) (μ κ:Nat→Nat) (cargs:Array Value),HeapOK Γ E w μ κ (fun _=>none) 0→cargs.size=xs.length →
  (∀(i:Nat) (x:AV),xs[i]? = some x→RelV (ctx E w μ κ (fun _=>none) 0) x (cargs.getD i undef)) →
  Calls P f cargs w fun e w' => ∃ cv,e = .returned cv∧(∀ K,RelV K r cv)∧w.heap.size≤w'.heap.size∧(∀ k,k<w.heap.size→w'.heap[k]? = w.heap[k]?)∧w'.os=w.os∧w'.tape=w.tape∧w'.output=w.output):CPure P Γ f xs r:=by
 intro E w μ κ cargs H hsz hrel
 refine (hc E w μ κ cargs H hsz hrel).mono ?_
 rintro e w' ⟨cv,rfl,hr,h1,h2,h3,h4,h5⟩
 obtain ⟨H',F'⟩:=grown_ok H h1 h2 h3 h4 h5
 exact ⟨cv,r,_,_,μ,κ,rfl,⟨rfl,rfl,rfl⟩,H',F',hr _⟩
theorem relC_vv {K:Ctx}{u v:Value}(h:RelC K (.val u) v):v=u:=by cases h; rfl
theorem arr1 {a:Array Value}(h:a.size=1):a = #[a.getD 0 undef]:=by
 obtain ⟨l⟩:=a
 match l,h with
 | [x],_=>rfl
theorem arr2 {a:Array Value}(h:a.size=2):a = #[a.getD 0 undef,a.getD 1 undef]:=by
 obtain ⟨l⟩:=a
 match l,h with
 | [x,y],_=>rfl
theorem relI {K:Ctx}{n:Int}{k:IntKind}{v:Value}(h:RelV K (.c (.val (.int k n))) v):v = .int k n:=by
 cases h with
 | c h=>cases h with
  | val h=>rfl
theorem relS {K:Ctx}{l:List UInt8}{v:Value}(h:RelV K (.c (.str l)) v):∃ s:ByteArray,s.data.toList=l∧v = .string s:=by
 cases h with
 | c h=>cases h with
  | str h=>exact ⟨_,h,rfl⟩
end
/-! ### strconv.Itoa -/
end Go.Proofs.YtnfgjdbajefoiaaGreatDoorBv
