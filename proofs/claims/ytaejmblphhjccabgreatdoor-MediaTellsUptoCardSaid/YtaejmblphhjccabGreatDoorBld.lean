/- strings.Builder at this program's numbers: its copyCheck walked, and what the writing methods lean on. Printed by a program of mine (bld.py). -/
import Derived.Test.YtaejmblphhjccabGreatDoorShelf
import Derived.Test.YtaejmblphhjccabGreatDoorBv29
namespace Go.Proofs.YtaejmblphhjccabGreatDoorBv
open Go Go.Shelf Go.RowKit Go.Proofs
set_option linter.unusedVariables false
def bren : Ren := ⟨fun | 169 => 36 | 167 => 95 | 166 => 35 | 240 => 56 | 165 => 34 | 241 => 57 | 277 => 89 | n => n, fun | 70 => 74 | 9 => 9 | 0 => 0 | 72 => 76 | 37 => 23 | 127 => 101 | 3 => 3 | 5 => 5 | 75 => 79 | n => n, fun | n => n⟩
set_option maxHeartbeats 1000000 in
set_option maxRecDepth 100000 in
theorem cc_used {P : Program} (hf : P.funcs[56]? = some Tryz.f56) (hx : P.funcs[88]? = some Tryz.f88) (mixed : P.follows .mixedOrders = true) (L : Lays.n169 P bren) (X : Builder.Extra P bren) (t74 : P.underlying 74 = some (.pointer 76)) (a74 : ∀ w, (isAgg 74).run P w = .ok false w) (z74 : ∀ w, (Go.sizeOf 74).run P w = .ok 1 w) (v74 : ∀ w, (zeroValue 74).run P w = .ok (.pointer none) w) (t9 : P.underlying 9 = some (.string)) (a9 : ∀ w, (isAgg 9).run P w = .ok false w) (z9 : ∀ w, (Go.sizeOf 9).run P w = .ok 1 w) (v9 : ∀ w, (zeroValue 9).run P w = .ok (.string ⟨#[]⟩) w) (t4 : P.underlying 4 = some (.bool)) (a4 : ∀ w, (isAgg 4).run P w = .ok false w) (z4 : ∀ w, (Go.sizeOf 4).run P w = .ok 1 w) (v4 : ∀ w, (zeroValue 4).run P w = .ok (.bool false) w) (t120 : P.underlying 120 = some (.unsafePointer)) (a120 : ∀ w, (isAgg 120).run P w = .ok false w) (z120 : ∀ w, (Go.sizeOf 120).run P w = .ok 1 w) (v120 : ∀ w, (zeroValue 120).run P w = .ok (.pointer none) w) (b : Nat) (w : World) (h0 : w.cell? ⟨b, 0, none⟩ = some (.pointer (some ⟨b, 0, none⟩))) :
    Calls P 56 #[.pointer (some ⟨b, 0, none⟩)] w fun e w' => e = .returned (.tuple #[]) ∧ w' = w := by
  obtain ⟨j, hj, _⟩ := Option.map_eq_some_iff.1 X.sizeBuilder
  have t76 := L.t72; have a76 := L.a72; have z76 := L.z72; have v76 := L.v72; have u76 := run_underlying L.t72
  have u74 := run_underlying t74
  have u9 := run_underlying t9
  have u4 := run_underlying t4
  have u120 := run_underlying t120
  simp only [show bren.t 72 = 76 from rfl, show bren.t 70 = 74 from rfl, show bren.t 37 = 23 from rfl] at t76 u76 a76 z76 v76 hj
  have hlies := X.liesBuilder
  simp only [show bren.t 72 = 76 from rfl] at hlies
  clear L X
  go_enter hf, Tryz.ntmps56
  go_wp2
  rw [Lib.run_neq_ptr_same w _ t74 hj]
  go_wp2
  go_end0
  exact ⟨rfl, rfl⟩
set_option maxHeartbeats 1000000 in
set_option maxRecDepth 100000 in
theorem cc_fresh {P : Program} (hf : P.funcs[56]? = some Tryz.f56) (hx : P.funcs[88]? = some Tryz.f88) (mixed : P.follows .mixedOrders = true) (L : Lays.n169 P bren) (X : Builder.Extra P bren) (t74 : P.underlying 74 = some (.pointer 76)) (a74 : ∀ w, (isAgg 74).run P w = .ok false w) (z74 : ∀ w, (Go.sizeOf 74).run P w = .ok 1 w) (v74 : ∀ w, (zeroValue 74).run P w = .ok (.pointer none) w) (t9 : P.underlying 9 = some (.string)) (a9 : ∀ w, (isAgg 9).run P w = .ok false w) (z9 : ∀ w, (Go.sizeOf 9).run P w = .ok 1 w) (v9 : ∀ w, (zeroValue 9).run P w = .ok (.string ⟨#[]⟩) w) (t4 : P.underlying 4 = some (.bool)) (a4 : ∀ w, (isAgg 4).run P w = .ok false w) (z4 : ∀ w, (Go.sizeOf 4).run P w = .ok 1 w) (v4 : ∀ w, (zeroValue 4).run P w = .ok (.bool false) w) (t120 : P.underlying 120 = some (.unsafePointer)) (a120 : ∀ w, (isAgg 120).run P w = .ok false w) (z120 : ∀ w, (Go.sizeOf 120).run P w = .ok 1 w) (v120 : ∀ w, (zeroValue 120).run P w = .ok (.pointer none) w) (b : Nat) (w : World) (h0 : w.cell? ⟨b, 0, none⟩ = some (.pointer none)) (hsh : w.shape? b = some (76, 2)) (hfz : w.frozen? ⟨b, 0, none⟩ = false) :
    Calls P 56 #[.pointer (some ⟨b, 0, none⟩)] w fun e w' => e = .returned (.tuple #[]) ∧ w' = w.setCell ⟨b, 0, none⟩ (.pointer (some ⟨b, 0, none⟩)) := by
  obtain ⟨j, hj, hjs⟩ := Option.map_eq_some_iff.1 X.sizeBuilder
  have t76 := L.t72; have a76 := L.a72; have z76 := L.z72; have v76 := L.v72; have u76 := run_underlying L.t72
  have u74 := run_underlying t74
  have u9 := run_underlying t9
  have u4 := run_underlying t4
  have u120 := run_underlying t120
  simp only [show bren.t 72 = 76 from rfl, show bren.t 70 = 74 from rfl, show bren.t 37 = 23 from rfl] at t76 u76 a76 z76 v76 hj
  have hlies := X.liesBuilder
  simp only [show bren.t 72 = 76 from rfl] at hlies
  clear L X
  go_enter hf, Tryz.ntmps56
  go_wp2
  rw [Lib.run_to_unsafe w ⟨b, 0, none⟩ t74 t120 hj (by rw [hjs]; decide) hsh (Nat.zero_lt_succ 1)]
  simp only [Result.andThen]
  rw [Oper.upon_value]
  go_wp2
  rw [run_callFunc_extern hx (by kernel_rfl) (by kernel_rfl) (by kernel_rfl) (e := Extern.AbiNoEscape.same) (by kernel_rfl)]
  rw [Lib.run_noEscape]
  simp only [Result.andThen]
  rw [Oper.upon_value]
  go_wp2
  rw [Lib.run_from_unsafe w ⟨b, 0, none⟩ t120 t74 hj hsh hlies]
  simp only [Result.andThen]
  rw [Oper.upon_value]
  go_wp2
  go_end0
  exact ⟨rfl, rfl⟩
theorem bL : Lays.n169 Tryz.prog bren := { Tryz.lays169 with f169 := Tryz.func36.trans (congrArg some (by kernel_rfl)) }
theorem bX : Builder.Extra Tryz.prog bren := {
  sizeBuilder := by kernel_rfl
  liesBuilder := by kernel_rfl
  t5 := Tryz.underlying5
  a5 := Tryz.isAgg5
  z5 := Tryz.sizeOf5
  v5 := Tryz.zeroValue5
  infoByte := by kernel_rfl
  cellsByte := by kernel_rfl
  sizeByte := by kernel_rfl
  neB5 := by decide }
theorem blays : BLays Tryz.prog bren where
  L := bL
  X := bX
  e240 := enters_of Tryz.func56 (by kernel_rfl) rfl
  used := cc_used Tryz.func56 Tryz.func88 (by kernel_rfl) bL bX Tryz.underlying74 Tryz.isAgg74 Tryz.sizeOf74 Tryz.zeroValue74 Tryz.underlying9 Tryz.isAgg9 Tryz.sizeOf9 Tryz.zeroValue9 Tryz.underlying4 Tryz.isAgg4 Tryz.sizeOf4 Tryz.zeroValue4 Tryz.underlying120 Tryz.isAgg120 Tryz.sizeOf120 Tryz.zeroValue120
  fresh := cc_fresh Tryz.func56 Tryz.func88 (by kernel_rfl) bL bX Tryz.underlying74 Tryz.isAgg74 Tryz.sizeOf74 Tryz.zeroValue74 Tryz.underlying9 Tryz.isAgg9 Tryz.sizeOf9 Tryz.zeroValue9 Tryz.underlying4 Tryz.isAgg4 Tryz.sizeOf4 Tryz.zeroValue4 Tryz.underlying120 Tryz.isAgg120 Tryz.sizeOf120 Tryz.zeroValue120
theorem bL4 : Lays.n241 Tryz.prog bren := { Tryz.lays241 with f241 := Tryz.func57.trans (congrArg some (by kernel_rfl)), f277 := Tryz.func89.trans (congrArg some (by kernel_rfl)) }
theorem b167 : Tryz.prog.funcs[bren.f 167]? = some (Body.n167 bren) := Tryz.func95.trans (congrArg some (by kernel_rfl))
theorem b166 : Tryz.prog.funcs[bren.f 166]? = some (Body.n166 bren) := Tryz.func35.trans (congrArg some (by kernel_rfl))
theorem b165 : Tryz.prog.funcs[bren.f 165]? = some (Body.n165 bren) := Tryz.func34.trans (congrArg some (by kernel_rfl))
end Go.Proofs.YtaejmblphhjccabGreatDoorBv
