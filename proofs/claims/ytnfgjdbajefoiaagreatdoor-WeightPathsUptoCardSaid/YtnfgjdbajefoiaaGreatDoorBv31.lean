/- The calculus: arguments whose bulk is bounded. It proves nothing of any program. -/
import Derived.Test.YtnfgjdbajefoiaaGreatDoorBv24
namespace Go.Proofs.YtnfgjdbajefoiaaGreatDoorBv
open Go
set_option linter.unusedVariables false
set_option linter.unusedSimpArgs false
mutual
def bulkC:Cel→Nat
 | .str l=>l.length+1
 | .ro _ _ xs=>bulkE xs+1
 | _=>1
def bulkL:List Cel→Nat
 | []=>0
 | x::r=>bulkC x+bulkL r
def bulkE:List (List Cel)→Nat
 | []=>0
 | x::r=>bulkL x+bulkE r
end
mutual
def bulkD {H:Type}:DataW H→Nat
 | .lit (.string bytes)=>bytes.length+1
 | .slice elems spare=>bulkDs elems+1
 | .agg parts=>bulkDs parts+1
 | _=>1
def bulkDs {H:Type}:List (DataW H)→Nat
 | []=>0
 | d::r=>bulkD d+bulkDs r
end
def bulkV:AV→Nat
 | .c x=>bulkC x
 | .agg l=>bulkL l
 | .tup _=>0
def bulkVs:List AV→Nat
 | []=>0
 | x::r=>bulkV x+bulkVs r
theorem bulkL_append (a b:List Cel):bulkL (a ++ b)=bulkL a+bulkL b:=by
 induction a with
 | nil=>simp [bulkL]
 | cons x r ih=>simp only [List.cons_append,bulkL,ih]; omega
theorem bulkE_map {α:Type}(f:α→List Cel) (l:List α):bulkE (l.map f)=(l.map fun x=>bulkL (f x)).sum:=by
 induction l with
 | nil=>simp [bulkE]
 | cons x r ih=>simp only [List.map_cons,bulkE,ih,List.sum_cons]
section
variable {H : Type} {enc : TypeId × Value → H} {P : Program} {w : World} {base : Nat} {spare : Nat → Bool} {held : Bool}
end
section
variable {H : Type} {enc : TypeId × Value → H} {P : Program} {W : World}
end
end Go.Proofs.YtnfgjdbajefoiaaGreatDoorBv
