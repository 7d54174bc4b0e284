/- strings.Builder at this program's numbers: its copyCheck walked, and what the writing methods lean on. Printed by a program of mine (bld.py). -/
import Derived.Test.YtnfgjdbajefoiaaGreatDoorShelf
import Derived.Test.YtnfgjdbajefoiaaGreatDoorBv29
namespace Go.Proofs.YtnfgjdbajefoiaaGreatDoorBv
open Go Go.Shelf Go.RowKit Go.Proofs
set_option linter.unusedVariables false
def bren:Ren:=⟨fun | 169=>61 | 167=>62 | 240=>78 | n=>n,fun | 70=>83 | 9=>9 | 0=>0 | 72=>85 | 37=>28 | 127=>101 | 3=>3 | 5=>5 | 75=>88 | n=>n,fun | n=>n⟩
set_option maxHeartbeats 1000000 in
set_option maxRecDepth 100000 in
theorem cc_used {P:Program}(hf:P.funcs[78]? = some Tryz.f78) (hx:P.funcs[95]? = some Tryz.f95) (mixed:P.follows .mixedOrders=true) (L:Lays.n169 P bren) (X:Builder.Extra P bren) (t83:P.underlying 83=some (.pointer 85)) (a83:∀ w,(isAgg 83).run P w = .ok false w) (z83:∀ w,(Go.sizeOf 83).run P w = .ok 1 w) (v83:∀ w,(zeroValue 83).run P w = .ok (.pointer none) w) (t9:P.underlying 9=some (.string)) (a9:∀ w,(isAgg 9).run P w = .ok false w) (z9:∀ w,(Go.sizeOf 9).run P w = .ok 1 w) (v9:∀ w,(zeroValue 9).run P w = .ok (.string ⟨#[]⟩) w) (t4:P.underlying 4=some (.bool)) (a4:∀ w,(isAgg 4).run P w = .ok false w) (z4:∀ w,(Go.sizeOf 4).run P w = .ok 1 w) (v4:∀ w,(zeroValue 4).run P w = .ok (.bool false) w) (t111:P.underlying 111=some (.unsafePointer)) (a111:∀ w,(isAgg 111).run P w = .ok false w) (z111:∀ w,(Go.sizeOf 111).run P w = .ok 1 w) (v111:∀ w,(zeroValue 111).run P w = .ok (.pointer none) w) (b:Nat) (w:World) (h0:w.cell? ⟨b,0,none⟩=some (.pointer (some ⟨b,0,none⟩))) :
    Calls P 78 #[.pointer (some ⟨b,0,none⟩)] w fun e w' => e = .returned (.tuple #[])∧w' = w:=by
  obtain ⟨j,hj,_⟩:=Option.map_eq_some_iff.1 X.sizeBuilder
  have t85:=L.t72; have a85:=L.a72; have z85:=L.z72; have v85:=L.v72; have u85:=run_underlying L.t72
  have u83:=run_underlying t83
  have u9:=run_underlying t9
  have u4:=run_underlying t4
  have u111:=run_underlying t111
  simp only [show bren.t 72=85 from rfl,show bren.t 70=83 from rfl,show bren.t 37=28 from rfl] at t85 u85 a85 z85 v85 hj
  have hlies:=X.liesBuilder
  simp only [show bren.t 72=85 from rfl] at hlies
  clear L X
  go_enter hf,Tryz.ntmps78
  go_wp2
  rw [Lib.run_neq_ptr_same w _ t83 hj]
  go_wp2
  go_end0
  exact ⟨rfl,rfl⟩
set_option maxHeartbeats 1000000 in
set_option maxRecDepth 100000 in
theorem cc_fresh {P:Program}(hf:P.funcs[78]? = some Tryz.f78) (hx:P.funcs[95]? = some Tryz.f95) (mixed:P.follows .mixedOrders=true) (L:Lays.n169 P bren) (X:Builder.Extra P bren) (t83:P.underlying 83=some (.pointer 85)) (a83:∀ w,(isAgg 83).run P w = .ok false w) (z83:∀ w,(Go.sizeOf 83).run P w = .ok 1 w) (v83:∀ w,(zeroValue 83).run P w = .ok (.pointer none) w) (t9:P.underlying 9=some (.string)) (a9:∀ w,(isAgg 9).run P w = .ok false w) (z9:∀ w,(Go.sizeOf 9).run P w = .ok 1 w) (v9:∀ w,(zeroValue 9).run P w = .ok (.string ⟨#[]⟩) w) (t4:P.underlying 4=some (.bool)) (a4:∀ w,(isAgg 4).run P w = .ok false w) (z4:∀ w,(Go.sizeOf 4).run P w = .ok 1 w) (v4:∀ w,(zeroValue 4).run P w = .ok (.bool false) w) (t111:P.underlying 111=some (.unsafePointer)) (a111:∀ w,(isAgg 111).run P w = .ok false w) (z111:∀ w,(Go.sizeOf 111).run P w = .ok 1 w) (v111:∀ w,(zeroValue 111).run P w = .ok (.pointer none) w) (b:Nat) (w:World) (h0:w.cell? ⟨b,0,none⟩=some (.pointer none)) (hsh:w.shape? b=some (85,2)) (hfz:w.frozen? ⟨b,0,none⟩=false) :
    Calls P 78 #[.pointer (some ⟨b,0,none⟩)] w fun e w' => e = .returned (.tuple #[])∧w' = w.setCell ⟨b,0,none⟩ (.pointer (some ⟨b,0,none⟩)):=by
  obtain ⟨j,hj,hjs⟩:=Option.map_eq_some_iff.1 X.sizeBuilder
  have t85:=L.t72; have a85:=L.a72; have z85:=L.z72; have v85:=L.v72; have u85:=run_underlying L.t72
  have u83:=run_underlying t83
  have u9:=run_underlying t9
  have u4:=run_underlying t4
  have u111:=run_underlying t111
  simp only [show bren.t 72=85 from rfl,show bren.t 70=83 from rfl,show bren.t 37=28 from rfl] at t85 u85 a85 z85 v85 hj
  have hlies:=X.liesBuilder
  simp only [show bren.t 72=85 from rfl] at hlies
  clear L X
  go_enter hf,Tryz.ntmps78
  go_wp2
  rw [Lib.run_to_unsafe w ⟨b,0,none⟩ t83 t111 hj (by rw [hjs]; decide) hsh (Nat.zero_lt_succ 1)]
  simp only [Result.andThen]
  rw [Oper.upon_value]
  go_wp2
  rw [run_callFunc_extern hx (by kernel_rfl) (by kernel_rfl) (by kernel_rfl) (e:=Extern.AbiNoEscape.same) (by kernel_rfl)]
  rw [Lib.run_noEscape]
  simp only [Result.andThen]
  rw [Oper.upon_value]
  go_wp2
  rw [Lib.run_from_unsafe w ⟨b,0,none⟩ t111 t83 hj hsh hlies]
  simp only [Result.andThen]
  rw [Oper.upon_value]
  go_wp2
  go_end0
  exact ⟨rfl,rfl⟩
theorem bL:Lays.n169 Tryz.prog bren:={ Tryz.lays169 with f169:=Tryz.func61.trans (congrArg some (by kernel_rfl)) }
theorem bX:Builder.Extra Tryz.prog bren:={
  sizeBuilder:=by kernel_rfl
  liesBuilder:=by kernel_rfl
  t5:=Tryz.underlying5
  a5:=Tryz.isAgg5
  z5:=Tryz.sizeOf5
  v5:=Tryz.zeroValue5
  infoByte:=by kernel_rfl
  cellsByte:=by kernel_rfl
  sizeByte:=by kernel_rfl
  neB5:=by decide }
theorem blays:BLays Tryz.prog bren where
  L:=bL
  X:=bX
  e240:=enters_of Tryz.func78 (by kernel_rfl) rfl
  used:=cc_used Tryz.func78 Tryz.func95 (by kernel_rfl) bL bX Tryz.underlying83 Tryz.isAgg83 Tryz.sizeOf83 Tryz.zeroValue83 Tryz.underlying9 Tryz.isAgg9 Tryz.sizeOf9 Tryz.zeroValue9 Tryz.underlying4 Tryz.isAgg4 Tryz.sizeOf4 Tryz.zeroValue4 Tryz.underlying111 Tryz.isAgg111 Tryz.sizeOf111 Tryz.zeroValue111
  fresh:=cc_fresh Tryz.func78 Tryz.func95 (by kernel_rfl) bL bX Tryz.underlying83 Tryz.isAgg83 Tryz.sizeOf83 Tryz.zeroValue83 Tryz.underlying9 Tryz.isAgg9 Tryz.sizeOf9 Tryz.zeroValue9 Tryz.underlying4 Tryz.isAgg4 Tryz.sizeOf4 Tryz.zeroValue4 Tryz.underlying111 Tryz.isAgg111 Tryz.sizeOf111 Tryz.zeroValue111
theorem b167:Tryz.prog.funcs[bren.f 167]? = some (Body.n167 bren):=Tryz.func62.trans (congrArg some (by kernel_rfl))
end Go.Proofs.YtnfgjdbajefoiaaGreatDoorBv
