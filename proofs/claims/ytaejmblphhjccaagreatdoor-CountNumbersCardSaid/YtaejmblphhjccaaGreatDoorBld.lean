/- strings.Builder at this program's numbers: its copyCheck walked, and what the writing methods lean on. Printed by a program of mine (bld.py). -/
import Derived.Test.YtaejmblphhjccaaGreatDoorShelf
import Derived.Test.YtaejmblphhjccaaGreatDoorBv29
namespace Go.Proofs.YtaejmblphhjccaaGreatDoorBv
open Go Go.Shelf Go.RowKit Go.Proofs
set_option linter.unusedVariables false
def bren : Ren := ⟨fun | 169 => 65 | 167 => 83 | 166 => 82 | 240 => 125 | 165 => 81 | 241 => 126 | 277 => 178 | n => n, fun | 70 => 97 | 9 => 9 | 0 => 0 | 72 => 99 | 37 => 62 | 127 => 151 | 3 => 3 | 5 => 5 | 75 => 132 | n => n, fun | n => n⟩
set_option maxHeartbeats 1000000 in
set_option maxRecDepth 100000 in
theorem cc_used {P : Program} (hf : P.funcs[125]? = some Tryz.f125) (hx : P.funcs[177]? = some Tryz.f177) (mixed : P.follows .mixedOrders = true) (L : Lays.n169 P bren) (X : Builder.Extra P bren) (t97 : P.underlying 97 = some (.pointer 99)) (a97 : ∀ w, (isAgg 97).run P w = .ok false w) (z97 : ∀ w, (Go.sizeOf 97).run P w = .ok 1 w) (v97 : ∀ w, (zeroValue 97).run P w = .ok (.pointer none) w) (t9 : P.underlying 9 = some (.string)) (a9 : ∀ w, (isAgg 9).run P w = .ok false w) (z9 : ∀ w, (Go.sizeOf 9).run P w = .ok 1 w) (v9 : ∀ w, (zeroValue 9).run P w = .ok (.string ⟨#[]⟩) w) (t4 : P.underlying 4 = some (.bool)) (a4 : ∀ w, (isAgg 4).run P w = .ok false w) (z4 : ∀ w, (Go.sizeOf 4).run P w = .ok 1 w) (v4 : ∀ w, (zeroValue 4).run P w = .ok (.bool false) w) (t195 : P.underlying 195 = some (.unsafePointer)) (a195 : ∀ w, (isAgg 195).run P w = .ok false w) (z195 : ∀ w, (Go.sizeOf 195).run P w = .ok 1 w) (v195 : ∀ w, (zeroValue 195).run P w = .ok (.pointer none) w) (b : Nat) (w : World) (h0 : w.cell? ⟨b, 0, none⟩ = some (.pointer (some ⟨b, 0, none⟩))) :
    Calls P 125 #[.pointer (some ⟨b, 0, none⟩)] w fun e w' => e = .returned (.tuple #[]) ∧ w' = w := by
  obtain ⟨j, hj, _⟩ := Option.map_eq_some_iff.1 X.sizeBuilder
  have t99 := L.t72; have a99 := L.a72; have z99 := L.z72; have v99 := L.v72; have u99 := run_underlying L.t72
  have u97 := run_underlying t97
  have u9 := run_underlying t9
  have u4 := run_underlying t4
  have u195 := run_underlying t195
  simp only [show bren.t 72 = 99 from rfl, show bren.t 70 = 97 from rfl, show bren.t 37 = 62 from rfl] at t99 u99 a99 z99 v99 hj
  have hlies := X.liesBuilder
  simp only [show bren.t 72 = 99 from rfl] at hlies
  clear L X
  go_enter hf, Tryz.ntmps125
  go_wp2
  rw [Lib.run_neq_ptr_same w _ t97 hj]
  go_wp2
  go_end0
  exact ⟨rfl, rfl⟩
set_option maxHeartbeats 1000000 in
set_option maxRecDepth 100000 in
theorem cc_fresh {P : Program} (hf : P.funcs[125]? = some Tryz.f125) (hx : P.funcs[177]? = some Tryz.f177) (mixed : P.follows .mixedOrders = true) (L : Lays.n169 P bren) (X : Builder.Extra P bren) (t97 : P.underlying 97 = some (.pointer 99)) (a97 : ∀ w, (isAgg 97).run P w = .ok false w) (z97 : ∀ w, (Go.sizeOf 97).run P w = .ok 1 w) (v97 : ∀ w, (zeroValue 97).run P w = .ok (.pointer none) w) (t9 : P.underlying 9 = some (.string)) (a9 : ∀ w, (isAgg 9).run P w = .ok false w) (z9 : ∀ w, (Go.sizeOf 9).run P w = .ok 1 w) (v9 : ∀ w, (zeroValue 9).run P w = .ok (.string ⟨#[]⟩) w) (t4 : P.underlying 4 = some (.bool)) (a4 : ∀ w, (isAgg 4).run P w = .ok false w) (z4 : ∀ w, (Go.sizeOf 4).run P w = .ok 1 w) (v4 : ∀ w, (zeroValue 4).run P w = .ok (.bool false) w) (t195 : P.underlying 195 = some (.unsafePointer)) (a195 : ∀ w, (isAgg 195).run P w = .ok false w) (z195 : ∀ w, (Go.sizeOf 195).run P w = .ok 1 w) (v195 : ∀ w, (zeroValue 195).run P w = .ok (.pointer none) w) (b : Nat) (w : World) (h0 : w.cell? ⟨b, 0, none⟩ = some (.pointer none)) (hsh : w.shape? b = some (99, 2)) (hfz : w.frozen? ⟨b, 0, none⟩ = false) :
    Calls P 125 #[.pointer (some ⟨b, 0, none⟩)] w fun e w' => e = .returned (.tuple #[]) ∧ w' = w.setCell ⟨b, 0, none⟩ (.pointer (some ⟨b, 0, none⟩)) := by
  obtain ⟨j, hj, hjs⟩ := Option.map_eq_some_iff.1 X.sizeBuilder
  have t99 := L.t72; have a99 := L.a72; have z99 := L.z72; have v99 := L.v72; have u99 := run_underlying L.t72
  have u97 := run_underlying t97
  have u9 := run_underlying t9
  have u4 := run_underlying t4
  have u195 := run_underlying t195
  simp only [show bren.t 72 = 99 from rfl, show bren.t 70 = 97 from rfl, show bren.t 37 = 62 from rfl] at t99 u99 a99 z99 v99 hj
  have hlies := X.liesBuilder
  simp only [show bren.t 72 = 99 from rfl] at hlies
  clear L X
  go_enter hf, Tryz.ntmps125
  go_wp2
  rw [Lib.run_to_unsafe w ⟨b, 0, none⟩ t97 t195 hj (by rw [hjs]; decide) hsh (Nat.zero_lt_succ 1)]
  simp only [Result.andThen]
  rw [Oper.upon_value]
  go_wp2
  rw [run_callFunc_extern hx (by kernel_rfl) (by kernel_rfl) (by kernel_rfl) (e := Extern.AbiNoEscape.same) (by kernel_rfl)]
  rw [Lib.run_noEscape]
  simp only [Result.andThen]
  rw [Oper.upon_value]
  go_wp2
  rw [Lib.run_from_unsafe w ⟨b, 0, none⟩ t195 t97 hj hsh hlies]
  simp only [Result.andThen]
  rw [Oper.upon_value]
  go_wp2
  go_end0
  exact ⟨rfl, rfl⟩
theorem bL : Lays.n169 Tryz.prog bren := { Tryz.lays169 with f169 := Tryz.func65.trans (congrArg some (by kernel_rfl)) }
theorem bX : Builder.Extra Tryz.prog bren := {
  sizeBuilder := by kernel_rfl
  liesBuilder := by kernel_rfl
  t5 := Tryz.underlying5
  a5 := Tryz.isAgg5
  z5 := Tryz.sizeOf5
  v5 := Tryz.zeroValue5
  infoByte := by kernel_rfl
  cellsByte := by kernel_rfl
  sizeByte := by kernel_rfl
  neB5 := by decide }
theorem blays : BLays Tryz.prog bren where
  L := bL
  X := bX
  e240 := enters_of Tryz.func125 (by kernel_rfl) rfl
  used := cc_used Tryz.func125 Tryz.func177 (by kernel_rfl) bL bX Tryz.underlying97 Tryz.isAgg97 Tryz.sizeOf97 Tryz.zeroValue97 Tryz.underlying9 Tryz.isAgg9 Tryz.sizeOf9 Tryz.zeroValue9 Tryz.underlying4 Tryz.isAgg4 Tryz.sizeOf4 Tryz.zeroValue4 Tryz.underlying195 Tryz.isAgg195 Tryz.sizeOf195 Tryz.zeroValue195
  fresh := cc_fresh Tryz.func125 Tryz.func177 (by kernel_rfl) bL bX Tryz.underlying97 Tryz.isAgg97 Tryz.sizeOf97 Tryz.zeroValue97 Tryz.underlying9 Tryz.isAgg9 Tryz.sizeOf9 Tryz.zeroValue9 Tryz.underlying4 Tryz.isAgg4 Tryz.sizeOf4 Tryz.zeroValue4 Tryz.underlying195 Tryz.isAgg195 Tryz.sizeOf195 Tryz.zeroValue195
theorem bL4 : Lays.n241 Tryz.prog bren := { Tryz.lays241 with f241 := Tryz.func126.trans (congrArg some (by kernel_rfl)), f277 := Tryz.func178.trans (congrArg some (by kernel_rfl)) }
theorem b167 : Tryz.prog.funcs[bren.f 167]? = some (Body.n167 bren) := Tryz.func83.trans (congrArg some (by kernel_rfl))
theorem b166 : Tryz.prog.funcs[bren.f 166]? = some (Body.n166 bren) := Tryz.func82.trans (congrArg some (by kernel_rfl))
theorem b165 : Tryz.prog.funcs[bren.f 165]? = some (Body.n165 bren) := Tryz.func81.trans (congrArg some (by kernel_rfl))
end Go.Proofs.YtaejmblphhjccaaGreatDoorBv
