/- slices.Grow, laid at the program's own instance. -/
import Derived.Test.YtngonchkhmjenaaGreatDoorRows
import Derived.Shelf.Spec.SlicesGrow
namespace Go.Proofs
open Go
def Tryz.grow92_ren:Go.Shelf.Ren:=⟨fun | 4=>92 | n=>n,fun | 0=>0 | 3=>3 | 4=>4 | 9=>9 | 20=>20 | 22=>51 | 25=>9 | n=>n,fun | n=>n⟩
theorem Tryz.grow92:Go.Proofs.Lays8.n4 Tryz.prog Tryz.grow92_ren:={
  mixed:=by kernel_rfl
  f4:=⟨"slices.Grow[[]string,string]",by decide,Tryz.func92.trans (congrArg some (by kernel_rfl))⟩
  t0:=Tryz.underlying0
  a0:=Tryz.isAgg0
  z0:=Tryz.sizeOf0
  v0:=Tryz.zeroValue0
  t3:=Tryz.underlying3
  a3:=Tryz.isAgg3
  z3:=Tryz.sizeOf3
  v3:=Tryz.zeroValue3
  t4:=Tryz.underlying4
  a4:=Tryz.isAgg4
  z4:=Tryz.sizeOf4
  v4:=Tryz.zeroValue4
  t9:=Tryz.underlying9
  a9:=Tryz.isAgg9
  z9:=Tryz.sizeOf9
  v9:=Tryz.zeroValue9
  t20:=Tryz.underlying20
  a20:=Tryz.isAgg20
  z20:=Tryz.sizeOf20
  v20:=Tryz.zeroValue20
  t22:=Tryz.underlying51
  a22:=Tryz.isAgg51
  z22:=Tryz.sizeOf51
  v22:=Tryz.zeroValue51 }
end Go.Proofs
