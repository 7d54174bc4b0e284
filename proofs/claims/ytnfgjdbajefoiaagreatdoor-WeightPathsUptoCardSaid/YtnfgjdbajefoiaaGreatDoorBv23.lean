/- The calculus: small laws of the words that the plain functions use. No program is in sight. -/
import Derived.Test.YtnfgjdbajefoiaaGreatDoorBv22
namespace Go.Proofs.YtnfgjdbajefoiaaGreatDoorBv
open Go
set_option linter.unusedVariables false
set_option linter.unusedSimpArgs false
theorem wi_id {n:Int}(h1 : -9223372036854775808≤n) (h2:n≤9223372036854775807):wi n=n:=IntWalk.i64_in _ (by omega)
theorem wr_i64 (n:Int):wr .i64 n=wi n:=rfl
theorem wr_u8 (n:Int):wr .u8 n=n % 256:=by
 simp only [wr,IntKind.wrap,IntKind.bits,IntKind.signed]
 simp
theorem at_nat {α:Type}(l:List α) (k:Nat):at? l (k:Int)=l[k]?:=by simp [at?]
theorem at_some {α:Type}{l:List α}{k:Nat}(h:k<l.length):at? l (k:Int)=some l[k]:=by rw [at_nat]; exact List.getElem?_eq_getElem h
theorem u8_all {p:UInt8→Bool}(h:((List.range 256).all fun n=>p (UInt8.ofNat n))=true) (c:UInt8):p c=true:=by
 have:=List.all_eq_true.1 h c.toNat (List.mem_range.2 c.toNat_lt)
 rwa [UInt8.ofNat_toNat] at this
theorem sub_nat {α:Type}{l:List α}{a b:Nat}(h:a≤b) (hb:b≤l.length):sub? l (a:Int) (b:Int)=some ((l.take b).drop a):=by
 unfold sub?
 rw [if_pos (by omega)]
 simp
theorem sub_drop {α:Type}{l:List α}{a:Nat}(h:a≤l.length):sub? l (a:Int) (l.length:Int)=some (l.drop a):=by
 rw [sub_nat h (Nat.le_refl _),List.take_length]
theorem sub_take {α:Type}{l:List α}{b:Nat}(h:b≤l.length):sub? l 0 (b:Int)=some (l.take b):=by
 have:=sub_nat (l:=l) (a:=0) (Nat.zero_le b) h
 simpa using this
theorem ints_length (l:List UInt8):(ints l).length=l.length:=by simp [ints]
theorem ints_get (l:List UInt8) (k:Nat):(ints l)[k]? = l[k]?.map fun b=>(b.toNat:Int):=by simp [ints]
theorem appq {α:Type}{bytes:Nat}{a b:List α}(h:(a.length+b.length) * bytes≤140737488355328):app? bytes a b=some (a ++ b):=if_pos h
theorem catq {a b:List UInt8}(h:a.length+b.length≤9223372036854775807):cat? a b=some (a ++ b):=if_pos h
theorem dropWhile_take {α:Type}(p:α→Bool) (l:List α):(l.takeWhile p).length+(l.dropWhile p).length=l.length:=by
 have:=congrArg List.length (List.takeWhile_append_dropWhile (p:=p) (l:=l))
 rwa [List.length_append] at this
theorem take_takeWhile {α:Type}(p:α→Bool) (l:List α):l.take (l.takeWhile p).length=l.takeWhile p:=by
 conv=>lhs; arg 2; rw [← List.takeWhile_append_dropWhile (p:=p) (l:=l)]
 rw [List.take_left]
end Go.Proofs.YtnfgjdbajefoiaaGreatDoorBv
