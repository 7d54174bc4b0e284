/- strings.Builder at this program's numbers: its copyCheck walked, and what the writing methods lean on. Printed by a program of mine (bld.py). -/
import Derived.Test.YteldbcjjojjjiaaDoorShelf
import Derived.Test.YteldbcjjojjjiaaDoorBv29
namespace Go.Proofs.YteldbcjjojjjiaaDoorBv
open Go Go.Shelf Go.RowKit Go.Proofs
set_option linter.unusedVariables false
def bren : Ren := ⟨fun | 169 => 43 | 167 => 107 | 166 => 39 | 240 => 68 | 165 => 154 | 241 => 172 | 277 => 182 | n => n, fun | 70 => 58 | 9 => 9 | 0 => 0 | 72 => 61 | 37 => 59 | 127 => 98 | 3 => 3 | 5 => 5 | 75 => 66 | n => n, fun | n => n⟩
set_option maxHeartbeats 1000000 in
set_option maxRecDepth 100000 in
theorem cc_used {P : Program} (hf : P.funcs[68]? = some Tryd.f68) (hx : P.funcs[103]? = some Tryd.f103) (mixed : P.follows .mixedOrders = true) (L : Lays.n169 P bren) (X : Builder.Extra P bren) (t58 : P.underlying 58 = some (.pointer 61)) (a58 : ∀ w, (isAgg 58).run P w = .ok false w) (z58 : ∀ w, (Go.sizeOf 58).run P w = .ok 1 w) (v58 : ∀ w, (zeroValue 58).run P w = .ok (.pointer none) w) (t9 : P.underlying 9 = some (.string)) (a9 : ∀ w, (isAgg 9).run P w = .ok false w) (z9 : ∀ w, (Go.sizeOf 9).run P w = .ok 1 w) (v9 : ∀ w, (zeroValue 9).run P w = .ok (.string ⟨#[]⟩) w) (t4 : P.underlying 4 = some (.bool)) (a4 : ∀ w, (isAgg 4).run P w = .ok false w) (z4 : ∀ w, (Go.sizeOf 4).run P w = .ok 1 w) (v4 : ∀ w, (zeroValue 4).run P w = .ok (.bool false) w) (t119 : P.underlying 119 = some (.unsafePointer)) (a119 : ∀ w, (isAgg 119).run P w = .ok false w) (z119 : ∀ w, (Go.sizeOf 119).run P w = .ok 1 w) (v119 : ∀ w, (zeroValue 119).run P w = .ok (.pointer none) w) (b : Nat) (w : World) (h0 : w.cell? ⟨b, 0, none⟩ = some (.pointer (some ⟨b, 0, none⟩))) :
    Calls P 68 #[.pointer (some ⟨b, 0, none⟩)] w fun e w' => e = .returned (.tuple #[]) ∧ w' = w := by
  obtain ⟨j, hj, _⟩ := Option.map_eq_some_iff.1 X.sizeBuilder
  have t61 := L.t72; have a61 := L.a72; have z61 := L.z72; have v61 := L.v72; have u61 := run_underlying L.t72
  have u58 := run_underlying t58
  have u9 := run_underlying t9
  have u4 := run_underlying t4
  have u119 := run_underlying t119
  simp only [show bren.t 72 = 61 from rfl, show bren.t 70 = 58 from rfl, show bren.t 37 = 59 from rfl] at t61 u61 a61 z61 v61 hj
  have hlies := X.liesBuilder
  simp only [show bren.t 72 = 61 from rfl] at hlies
  clear L X
  go_enter hf, Tryd.ntmps68
  go_wp2
  rw [Lib.run_neq_ptr_same w _ t58 hj]
  go_wp2
  go_end0
  exact ⟨rfl, rfl⟩
set_option maxHeartbeats 1000000 in
set_option maxRecDepth 100000 in
theorem cc_fresh {P : Program} (hf : P.funcs[68]? = some Tryd.f68) (hx : P.funcs[103]? = some Tryd.f103) (mixed : P.follows .mixedOrders = true) (L : Lays.n169 P bren) (X : Builder.Extra P bren) (t58 : P.underlying 58 = some (.pointer 61)) (a58 : ∀ w, (isAgg 58).run P w = .ok false w) (z58 : ∀ w, (Go.sizeOf 58).run P w = .ok 1 w) (v58 : ∀ w, (zeroValue 58).run P w = .ok (.pointer none) w) (t9 : P.underlying 9 = some (.string)) (a9 : ∀ w, (isAgg 9).run P w = .ok false w) (z9 : ∀ w, (Go.sizeOf 9).run P w = .ok 1 w) (v9 : ∀ w, (zeroValue 9).run P w = .ok (.string ⟨#[]⟩) w) (t4 : P.underlying 4 = some (.bool)) (a4 : ∀ w, (isAgg 4).run P w = .ok false w) (z4 : ∀ w, (Go.sizeOf 4).run P w = .ok 1 w) (v4 : ∀ w, (zeroValue 4).run P w = .ok (.bool false) w) (t119 : P.underlying 119 = some (.unsafePointer)) (a119 : ∀ w, (isAgg 119).run P w = .ok false w) (z119 : ∀ w, (Go.sizeOf 119).run P w = .ok 1 w) (v119 : ∀ w, (zeroValue 119).run P w = .ok (.pointer none) w) (b : Nat) (w : World) (h0 : w.cell? ⟨b, 0, none⟩ = some (.pointer none)) (hsh : w.shape? b = some (61, 2)) (hfz : w.frozen? ⟨b, 0, none⟩ = false) :
    Calls P 68 #[.pointer (some ⟨b, 0, none⟩)] w fun e w' => e = .returned (.tuple #[]) ∧ w' = w.setCell ⟨b, 0, none⟩ (.pointer (some ⟨b, 0, none⟩)) := by
  obtain ⟨j, hj, hjs⟩ := Option.map_eq_some_iff.1 X.sizeBuilder
  have t61 := L.t72; have a61 := L.a72; have z61 := L.z72; have v61 := L.v72; have u61 := run_underlying L.t72
  have u58 := run_underlying t58
  have u9 := run_underlying t9
  have u4 := run_underlying t4
  have u119 := run_underlying t119
  simp only [show bren.t 72 = 61 from rfl, show bren.t 70 = 58 from rfl, show bren.t 37 = 59 from rfl] at t61 u61 a61 z61 v61 hj
  have hlies := X.liesBuilder
  simp only [show bren.t 72 = 61 from rfl] at hlies
  clear L X
  go_enter hf, Tryd.ntmps68
  go_wp2
  rw [Lib.run_to_unsafe w ⟨b, 0, none⟩ t58 t119 hj (by rw [hjs]; decide) hsh (Nat.zero_lt_succ 1)]
  simp only [Result.andThen]
  rw [Oper.upon_value]
  go_wp2
  rw [run_callFunc_extern hx (by kernel_rfl) (by kernel_rfl) (by kernel_rfl) (e := Extern.AbiNoEscape.same) (by kernel_rfl)]
  rw [Lib.run_noEscape]
  simp only [Result.andThen]
  rw [Oper.upon_value]
  go_wp2
  rw [Lib.run_from_unsafe w ⟨b, 0, none⟩ t119 t58 hj hsh hlies]
  simp only [Result.andThen]
  rw [Oper.upon_value]
  go_wp2
  go_end0
  exact ⟨rfl, rfl⟩
theorem bL : Lays.n169 Tryd.prog bren := { Tryd.lays169 with f169 := Tryd.func43.trans (congrArg some (by kernel_rfl)) }
theorem bX : Builder.Extra Tryd.prog bren := {
  sizeBuilder := by kernel_rfl
  liesBuilder := by kernel_rfl
  t5 := Tryd.underlying5
  a5 := Tryd.isAgg5
  z5 := Tryd.sizeOf5
  v5 := Tryd.zeroValue5
  infoByte := by kernel_rfl
  cellsByte := by kernel_rfl
  sizeByte := by kernel_rfl
  neB5 := by decide }
theorem blays : BLays Tryd.prog bren where
  L := bL
  X := bX
  e240 := enters_of Tryd.func68 (by kernel_rfl) rfl
  used := cc_used Tryd.func68 Tryd.func103 (by kernel_rfl) bL bX Tryd.underlying58 Tryd.isAgg58 Tryd.sizeOf58 Tryd.zeroValue58 Tryd.underlying9 Tryd.isAgg9 Tryd.sizeOf9 Tryd.zeroValue9 Tryd.underlying4 Tryd.isAgg4 Tryd.sizeOf4 Tryd.zeroValue4 Tryd.underlying119 Tryd.isAgg119 Tryd.sizeOf119 Tryd.zeroValue119
  fresh := cc_fresh Tryd.func68 Tryd.func103 (by kernel_rfl) bL bX Tryd.underlying58 Tryd.isAgg58 Tryd.sizeOf58 Tryd.zeroValue58 Tryd.underlying9 Tryd.isAgg9 Tryd.sizeOf9 Tryd.zeroValue9 Tryd.underlying4 Tryd.isAgg4 Tryd.sizeOf4 Tryd.zeroValue4 Tryd.underlying119 Tryd.isAgg119 Tryd.sizeOf119 Tryd.zeroValue119
theorem bL4 : Lays.n241 Tryd.prog bren := { Tryd.lays241 with f241 := Tryd.func172.trans (congrArg some (by kernel_rfl)), f277 := Tryd.func182.trans (congrArg some (by kernel_rfl)) }
theorem b167 : Tryd.prog.funcs[bren.f 167]? = some (Body.n167 bren) := Tryd.func107.trans (congrArg some (by kernel_rfl))
theorem b166 : Tryd.prog.funcs[bren.f 166]? = some (Body.n166 bren) := Tryd.func39.trans (congrArg some (by kernel_rfl))
theorem b165 : Tryd.prog.funcs[bren.f 165]? = some (Body.n165 bren) := Tryd.func154.trans (congrArg some (by kernel_rfl))
end Go.Proofs.YteldbcjjojjjiaaDoorBv
