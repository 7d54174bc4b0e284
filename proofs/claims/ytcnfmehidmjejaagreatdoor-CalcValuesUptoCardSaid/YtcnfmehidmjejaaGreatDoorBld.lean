/- strings.Builder at this program's numbers: its copyCheck walked, and what the writing methods lean on. Printed by a program of mine (bld.py). -/
import Derived.Test.YtcnfmehidmjejaaGreatDoorShelf
import Derived.Test.YtcnfmehidmjejaaGreatDoorBv29
namespace Go.Proofs.YtcnfmehidmjejaaGreatDoorBv
open Go Go.Shelf Go.RowKit Go.Proofs
set_option linter.unusedVariables false
def bren : Ren := ⟨fun | 169 => 44 | 167 => 78 | 166 => 43 | 240 => 68 | 165 => 42 | 241 => 69 | 277 => 91 | n => n, fun | 70 => 77 | 9 => 9 | 0 => 0 | 72 => 80 | 37 => 78 | 127 => 106 | 3 => 3 | 5 => 5 | 75 => 83 | n => n, fun | n => n⟩
set_option maxHeartbeats 1000000 in
set_option maxRecDepth 100000 in
theorem cc_used {P : Program} (hf : P.funcs[68]? = some Tryz.f68) (hx : P.funcs[90]? = some Tryz.f90) (mixed : P.follows .mixedOrders = true) (L : Lays.n169 P bren) (X : Builder.Extra P bren) (t77 : P.underlying 77 = some (.pointer 80)) (a77 : ∀ w, (isAgg 77).run P w = .ok false w) (z77 : ∀ w, (Go.sizeOf 77).run P w = .ok 1 w) (v77 : ∀ w, (zeroValue 77).run P w = .ok (.pointer none) w) (t9 : P.underlying 9 = some (.string)) (a9 : ∀ w, (isAgg 9).run P w = .ok false w) (z9 : ∀ w, (Go.sizeOf 9).run P w = .ok 1 w) (v9 : ∀ w, (zeroValue 9).run P w = .ok (.string ⟨#[]⟩) w) (t4 : P.underlying 4 = some (.bool)) (a4 : ∀ w, (isAgg 4).run P w = .ok false w) (z4 : ∀ w, (Go.sizeOf 4).run P w = .ok 1 w) (v4 : ∀ w, (zeroValue 4).run P w = .ok (.bool false) w) (t117 : P.underlying 117 = some (.unsafePointer)) (a117 : ∀ w, (isAgg 117).run P w = .ok false w) (z117 : ∀ w, (Go.sizeOf 117).run P w = .ok 1 w) (v117 : ∀ w, (zeroValue 117).run P w = .ok (.pointer none) w) (b : Nat) (w : World) (h0 : w.cell? ⟨b, 0, none⟩ = some (.pointer (some ⟨b, 0, none⟩))) :
    Calls P 68 #[.pointer (some ⟨b, 0, none⟩)] w fun e w' => e = .returned (.tuple #[]) ∧ w' = w := by
  obtain ⟨j, hj, _⟩ := Option.map_eq_some_iff.1 X.sizeBuilder
  have t80 := L.t72; have a80 := L.a72; have z80 := L.z72; have v80 := L.v72; have u80 := run_underlying L.t72
  have u77 := run_underlying t77
  have u9 := run_underlying t9
  have u4 := run_underlying t4
  have u117 := run_underlying t117
  simp only [show bren.t 72 = 80 from rfl, show bren.t 70 = 77 from rfl, show bren.t 37 = 78 from rfl] at t80 u80 a80 z80 v80 hj
  have hlies := X.liesBuilder
  simp only [show bren.t 72 = 80 from rfl] at hlies
  clear L X
  go_enter hf, Tryz.ntmps68
  go_wp2
  rw [Lib.run_neq_ptr_same w _ t77 hj]
  go_wp2
  go_end0
  exact ⟨rfl, rfl⟩
set_option maxHeartbeats 1000000 in
set_option maxRecDepth 100000 in
theorem cc_fresh {P : Program} (hf : P.funcs[68]? = some Tryz.f68) (hx : P.funcs[90]? = some Tryz.f90) (mixed : P.follows .mixedOrders = true) (L : Lays.n169 P bren) (X : Builder.Extra P bren) (t77 : P.underlying 77 = some (.pointer 80)) (a77 : ∀ w, (isAgg 77).run P w = .ok false w) (z77 : ∀ w, (Go.sizeOf 77).run P w = .ok 1 w) (v77 : ∀ w, (zeroValue 77).run P w = .ok (.pointer none) w) (t9 : P.underlying 9 = some (.string)) (a9 : ∀ w, (isAgg 9).run P w = .ok false w) (z9 : ∀ w, (Go.sizeOf 9).run P w = .ok 1 w) (v9 : ∀ w, (zeroValue 9).run P w = .ok (.string ⟨#[]⟩) w) (t4 : P.underlying 4 = some (.bool)) (a4 : ∀ w, (isAgg 4).run P w = .ok false w) (z4 : ∀ w, (Go.sizeOf 4).run P w = .ok 1 w) (v4 : ∀ w, (zeroValue 4).run P w = .ok (.bool false) w) (t117 : P.underlying 117 = some (.unsafePointer)) (a117 : ∀ w, (isAgg 117).run P w = .ok false w) (z117 : ∀ w, (Go.sizeOf 117).run P w = .ok 1 w) (v117 : ∀ w, (zeroValue 117).run P w = .ok (.pointer none) w) (b : Nat) (w : World) (h0 : w.cell? ⟨b, 0, none⟩ = some (.pointer none)) (hsh : w.shape? b = some (80, 2)) (hfz : w.frozen? ⟨b, 0, none⟩ = false) :
    Calls P 68 #[.pointer (some ⟨b, 0, none⟩)] w fun e w' => e = .returned (.tuple #[]) ∧ w' = w.setCell ⟨b, 0, none⟩ (.pointer (some ⟨b, 0, none⟩)) := by
  obtain ⟨j, hj, hjs⟩ := Option.map_eq_some_iff.1 X.sizeBuilder
  have t80 := L.t72; have a80 := L.a72; have z80 := L.z72; have v80 := L.v72; have u80 := run_underlying L.t72
  have u77 := run_underlying t77
  have u9 := run_underlying t9
  have u4 := run_underlying t4
  have u117 := run_underlying t117
  simp only [show bren.t 72 = 80 from rfl, show bren.t 70 = 77 from rfl, show bren.t 37 = 78 from rfl] at t80 u80 a80 z80 v80 hj
  have hlies := X.liesBuilder
  simp only [show bren.t 72 = 80 from rfl] at hlies
  clear L X
  go_enter hf, Tryz.ntmps68
  go_wp2
  rw [Lib.run_to_unsafe w ⟨b, 0, none⟩ t77 t117 hj (by rw [hjs]; decide) hsh (Nat.zero_lt_succ 1)]
  simp only [Result.andThen]
  rw [Oper.upon_value]
  go_wp2
  rw [run_callFunc_extern hx (by kernel_rfl) (by kernel_rfl) (by kernel_rfl) (e := Extern.AbiNoEscape.same) (by kernel_rfl)]
  rw [Lib.run_noEscape]
  simp only [Result.andThen]
  rw [Oper.upon_value]
  go_wp2
  rw [Lib.run_from_unsafe w ⟨b, 0, none⟩ t117 t77 hj hsh hlies]
  simp only [Result.andThen]
  rw [Oper.upon_value]
  go_wp2
  go_end0
  exact ⟨rfl, rfl⟩
theorem bL : Lays.n169 Tryz.prog bren := { Tryz.lays169 with f169 := Tryz.func44.trans (congrArg some (by kernel_rfl)) }
theorem bX : Builder.Extra Tryz.prog bren := {
  sizeBuilder := by kernel_rfl
  liesBuilder := by kernel_rfl
  t5 := Tryz.underlying5
  a5 := Tryz.isAgg5
  z5 := Tryz.sizeOf5
  v5 := Tryz.zeroValue5
  infoByte := by kernel_rfl
  cellsByte := by kernel_rfl
  sizeByte := by kernel_rfl
  neB5 := by decide }
theorem blays : BLays Tryz.prog bren where
  L := bL
  X := bX
  e240 := enters_of Tryz.func68 (by kernel_rfl) rfl
  used := cc_used Tryz.func68 Tryz.func90 (by kernel_rfl) bL bX Tryz.underlying77 Tryz.isAgg77 Tryz.sizeOf77 Tryz.zeroValue77 Tryz.underlying9 Tryz.isAgg9 Tryz.sizeOf9 Tryz.zeroValue9 Tryz.underlying4 Tryz.isAgg4 Tryz.sizeOf4 Tryz.zeroValue4 Tryz.underlying117 Tryz.isAgg117 Tryz.sizeOf117 Tryz.zeroValue117
  fresh := cc_fresh Tryz.func68 Tryz.func90 (by kernel_rfl) bL bX Tryz.underlying77 Tryz.isAgg77 Tryz.sizeOf77 Tryz.zeroValue77 Tryz.underlying9 Tryz.isAgg9 Tryz.sizeOf9 Tryz.zeroValue9 Tryz.underlying4 Tryz.isAgg4 Tryz.sizeOf4 Tryz.zeroValue4 Tryz.underlying117 Tryz.isAgg117 Tryz.sizeOf117 Tryz.zeroValue117
theorem bL4 : Lays.n241 Tryz.prog bren := { Tryz.lays241 with f241 := Tryz.func69.trans (congrArg some (by kernel_rfl)), f277 := Tryz.func91.trans (congrArg some (by kernel_rfl)) }
theorem b167 : Tryz.prog.funcs[bren.f 167]? = some (Body.n167 bren) := Tryz.func78.trans (congrArg some (by kernel_rfl))
theorem b166 : Tryz.prog.funcs[bren.f 166]? = some (Body.n166 bren) := Tryz.func43.trans (congrArg some (by kernel_rfl))
theorem b165 : Tryz.prog.funcs[bren.f 165]? = some (Body.n165 bren) := Tryz.func42.trans (congrArg some (by kernel_rfl))
end Go.Proofs.YtcnfmehidmjejaaGreatDoorBv
