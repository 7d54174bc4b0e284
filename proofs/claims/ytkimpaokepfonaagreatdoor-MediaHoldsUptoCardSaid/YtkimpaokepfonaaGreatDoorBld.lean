/- strings.Builder at this program's numbers: its copyCheck walked, and what the writing methods lean on. Printed by a program of mine (bld.py). -/
import Derived.Test.YtkimpaokepfonaaGreatDoorShelf
import Derived.Test.YtkimpaokepfonaaGreatDoorBv29
namespace Go.Proofs.YtkimpaokepfonaaGreatDoorBv
open Go Go.Shelf Go.RowKit Go.Proofs
set_option linter.unusedVariables false
def bren : Ren := ⟨fun | 169 => 47 | 167 => 48 | 240 => 68 | n => n, fun | 70 => 88 | 9 => 9 | 0 => 0 | 72 => 90 | 37 => 61 | 127 => 103 | 3 => 3 | 5 => 5 | 75 => 78 | n => n, fun | n => n⟩
set_option maxHeartbeats 1000000 in
set_option maxRecDepth 100000 in
theorem cc_used {P : Program} (hf : P.funcs[68]? = some Tryz.f68) (hx : P.funcs[79]? = some Tryz.f79) (mixed : P.follows .mixedOrders = true) (L : Lays.n169 P bren) (X : Builder.Extra P bren) (t88 : P.underlying 88 = some (.pointer 90)) (a88 : ∀ w, (isAgg 88).run P w = .ok false w) (z88 : ∀ w, (Go.sizeOf 88).run P w = .ok 1 w) (v88 : ∀ w, (zeroValue 88).run P w = .ok (.pointer none) w) (t9 : P.underlying 9 = some (.string)) (a9 : ∀ w, (isAgg 9).run P w = .ok false w) (z9 : ∀ w, (Go.sizeOf 9).run P w = .ok 1 w) (v9 : ∀ w, (zeroValue 9).run P w = .ok (.string ⟨#[]⟩) w) (t4 : P.underlying 4 = some (.bool)) (a4 : ∀ w, (isAgg 4).run P w = .ok false w) (z4 : ∀ w, (Go.sizeOf 4).run P w = .ok 1 w) (v4 : ∀ w, (zeroValue 4).run P w = .ok (.bool false) w) (t114 : P.underlying 114 = some (.unsafePointer)) (a114 : ∀ w, (isAgg 114).run P w = .ok false w) (z114 : ∀ w, (Go.sizeOf 114).run P w = .ok 1 w) (v114 : ∀ w, (zeroValue 114).run P w = .ok (.pointer none) w) (b : Nat) (w : World) (h0 : w.cell? ⟨b, 0, none⟩ = some (.pointer (some ⟨b, 0, none⟩))) :
    Calls P 68 #[.pointer (some ⟨b, 0, none⟩)] w fun e w' => e = .returned (.tuple #[]) ∧ w' = w := by
  obtain ⟨j, hj, _⟩ := Option.map_eq_some_iff.1 X.sizeBuilder
  have t90 := L.t72; have a90 := L.a72; have z90 := L.z72; have v90 := L.v72; have u90 := run_underlying L.t72
  have u88 := run_underlying t88
  have u9 := run_underlying t9
  have u4 := run_underlying t4
  have u114 := run_underlying t114
  simp only [show bren.t 72 = 90 from rfl, show bren.t 70 = 88 from rfl, show bren.t 37 = 61 from rfl] at t90 u90 a90 z90 v90 hj
  have hlies := X.liesBuilder
  simp only [show bren.t 72 = 90 from rfl] at hlies
  clear L X
  go_enter hf, Tryz.ntmps68
  go_wp2
  rw [Lib.run_neq_ptr_same w _ t88 hj]
  go_wp2
  go_end0
  exact ⟨rfl, rfl⟩
set_option maxHeartbeats 1000000 in
set_option maxRecDepth 100000 in
theorem cc_fresh {P : Program} (hf : P.funcs[68]? = some Tryz.f68) (hx : P.funcs[79]? = some Tryz.f79) (mixed : P.follows .mixedOrders = true) (L : Lays.n169 P bren) (X : Builder.Extra P bren) (t88 : P.underlying 88 = some (.pointer 90)) (a88 : ∀ w, (isAgg 88).run P w = .ok false w) (z88 : ∀ w, (Go.sizeOf 88).run P w = .ok 1 w) (v88 : ∀ w, (zeroValue 88).run P w = .ok (.pointer none) w) (t9 : P.underlying 9 = some (.string)) (a9 : ∀ w, (isAgg 9).run P w = .ok false w) (z9 : ∀ w, (Go.sizeOf 9).run P w = .ok 1 w) (v9 : ∀ w, (zeroValue 9).run P w = .ok (.string ⟨#[]⟩) w) (t4 : P.underlying 4 = some (.bool)) (a4 : ∀ w, (isAgg 4).run P w = .ok false w) (z4 : ∀ w, (Go.sizeOf 4).run P w = .ok 1 w) (v4 : ∀ w, (zeroValue 4).run P w = .ok (.bool false) w) (t114 : P.underlying 114 = some (.unsafePointer)) (a114 : ∀ w, (isAgg 114).run P w = .ok false w) (z114 : ∀ w, (Go.sizeOf 114).run P w = .ok 1 w) (v114 : ∀ w, (zeroValue 114).run P w = .ok (.pointer none) w) (b : Nat) (w : World) (h0 : w.cell? ⟨b, 0, none⟩ = some (.pointer none)) (hsh : w.shape? b = some (90, 2)) (hfz : w.frozen? ⟨b, 0, none⟩ = false) :
    Calls P 68 #[.pointer (some ⟨b, 0, none⟩)] w fun e w' => e = .returned (.tuple #[]) ∧ w' = w.setCell ⟨b, 0, none⟩ (.pointer (some ⟨b, 0, none⟩)) := by
  obtain ⟨j, hj, hjs⟩ := Option.map_eq_some_iff.1 X.sizeBuilder
  have t90 := L.t72; have a90 := L.a72; have z90 := L.z72; have v90 := L.v72; have u90 := run_underlying L.t72
  have u88 := run_underlying t88
  have u9 := run_underlying t9
  have u4 := run_underlying t4
  have u114 := run_underlying t114
  simp only [show bren.t 72 = 90 from rfl, show bren.t 70 = 88 from rfl, show bren.t 37 = 61 from rfl] at t90 u90 a90 z90 v90 hj
  have hlies := X.liesBuilder
  simp only [show bren.t 72 = 90 from rfl] at hlies
  clear L X
  go_enter hf, Tryz.ntmps68
  go_wp2
  rw [Lib.run_to_unsafe w ⟨b, 0, none⟩ t88 t114 hj (by rw [hjs]; decide) hsh (Nat.zero_lt_succ 1)]
  simp only [Result.andThen]
  rw [Oper.upon_value]
  go_wp2
  rw [run_callFunc_extern hx (by kernel_rfl) (by kernel_rfl) (by kernel_rfl) (e := Extern.AbiNoEscape.same) (by kernel_rfl)]
  rw [Lib.run_noEscape]
  simp only [Result.andThen]
  rw [Oper.upon_value]
  go_wp2
  rw [Lib.run_from_unsafe w ⟨b, 0, none⟩ t114 t88 hj hsh hlies]
  simp only [Result.andThen]
  rw [Oper.upon_value]
  go_wp2
  go_end0
  exact ⟨rfl, rfl⟩
theorem bL : Lays.n169 Tryz.prog bren := { Tryz.lays169 with f169 := Tryz.func47.trans (congrArg some (by kernel_rfl)) }
theorem bX : Builder.Extra Tryz.prog bren := {
  sizeBuilder := by kernel_rfl
  liesBuilder := by kernel_rfl
  t5 := Tryz.underlying5
  a5 := Tryz.isAgg5
  z5 := Tryz.sizeOf5
  v5 := Tryz.zeroValue5
  infoByte := by kernel_rfl
  cellsByte := by kernel_rfl
  sizeByte := by kernel_rfl
  neB5 := by decide }
theorem blays : BLays Tryz.prog bren where
  L := bL
  X := bX
  e240 := enters_of Tryz.func68 (by kernel_rfl) rfl
  used := cc_used Tryz.func68 Tryz.func79 (by kernel_rfl) bL bX Tryz.underlying88 Tryz.isAgg88 Tryz.sizeOf88 Tryz.zeroValue88 Tryz.underlying9 Tryz.isAgg9 Tryz.sizeOf9 Tryz.zeroValue9 Tryz.underlying4 Tryz.isAgg4 Tryz.sizeOf4 Tryz.zeroValue4 Tryz.underlying114 Tryz.isAgg114 Tryz.sizeOf114 Tryz.zeroValue114
  fresh := cc_fresh Tryz.func68 Tryz.func79 (by kernel_rfl) bL bX Tryz.underlying88 Tryz.isAgg88 Tryz.sizeOf88 Tryz.zeroValue88 Tryz.underlying9 Tryz.isAgg9 Tryz.sizeOf9 Tryz.zeroValue9 Tryz.underlying4 Tryz.isAgg4 Tryz.sizeOf4 Tryz.zeroValue4 Tryz.underlying114 Tryz.isAgg114 Tryz.sizeOf114 Tryz.zeroValue114
theorem b167 : Tryz.prog.funcs[bren.f 167]? = some (Body.n167 bren) := Tryz.func48.trans (congrArg some (by kernel_rfl))
end Go.Proofs.YtkimpaokepfonaaGreatDoorBv
