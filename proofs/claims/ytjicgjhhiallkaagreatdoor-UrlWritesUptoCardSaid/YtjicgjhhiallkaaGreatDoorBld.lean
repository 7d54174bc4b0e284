/- strings.Builder at this program's numbers: its copyCheck walked, and what the writing methods lean on. Printed by a program of mine (bld.py). -/
import Derived.Test.YtjicgjhhiallkaaGreatDoorShelf
import Derived.Test.YtjicgjhhiallkaaGreatDoorBv29
namespace Go.Proofs.YtjicgjhhiallkaaGreatDoorBv
open Go Go.Shelf Go.RowKit Go.Proofs
set_option linter.unusedVariables false
def bren : Ren := ⟨fun | 169 => 66 | 167 => 87 | 166 => 64 | 240 => 93 | 165 => 97 | 241 => 120 | 277 => 136 | n => n, fun | 70 => 74 | 9 => 9 | 0 => 0 | 72 => 76 | 37 => 55 | 127 => 101 | 3 => 3 | 5 => 5 | 75 => 69 | n => n, fun | n => n⟩
set_option maxHeartbeats 1000000 in
set_option maxRecDepth 100000 in
theorem cc_used {P : Program} (hf : P.funcs[93]? = some Tryz.f93) (hx : P.funcs[118]? = some Tryz.f118) (mixed : P.follows .mixedOrders = true) (L : Lays.n169 P bren) (X : Builder.Extra P bren) (t74 : P.underlying 74 = some (.pointer 76)) (a74 : ∀ w, (isAgg 74).run P w = .ok false w) (z74 : ∀ w, (Go.sizeOf 74).run P w = .ok 1 w) (v74 : ∀ w, (zeroValue 74).run P w = .ok (.pointer none) w) (t9 : P.underlying 9 = some (.string)) (a9 : ∀ w, (isAgg 9).run P w = .ok false w) (z9 : ∀ w, (Go.sizeOf 9).run P w = .ok 1 w) (v9 : ∀ w, (zeroValue 9).run P w = .ok (.string ⟨#[]⟩) w) (t4 : P.underlying 4 = some (.bool)) (a4 : ∀ w, (isAgg 4).run P w = .ok false w) (z4 : ∀ w, (Go.sizeOf 4).run P w = .ok 1 w) (v4 : ∀ w, (zeroValue 4).run P w = .ok (.bool false) w) (t125 : P.underlying 125 = some (.unsafePointer)) (a125 : ∀ w, (isAgg 125).run P w = .ok false w) (z125 : ∀ w, (Go.sizeOf 125).run P w = .ok 1 w) (v125 : ∀ w, (zeroValue 125).run P w = .ok (.pointer none) w) (b : Nat) (w : World) (h0 : w.cell? ⟨b, 0, none⟩ = some (.pointer (some ⟨b, 0, none⟩))) :
    Calls P 93 #[.pointer (some ⟨b, 0, none⟩)] w fun e w' => e = .returned (.tuple #[]) ∧ w' = w := by
  obtain ⟨j, hj, _⟩ := Option.map_eq_some_iff.1 X.sizeBuilder
  have t76 := L.t72; have a76 := L.a72; have z76 := L.z72; have v76 := L.v72; have u76 := run_underlying L.t72
  have u74 := run_underlying t74
  have u9 := run_underlying t9
  have u4 := run_underlying t4
  have u125 := run_underlying t125
  simp only [show bren.t 72 = 76 from rfl, show bren.t 70 = 74 from rfl, show bren.t 37 = 55 from rfl] at t76 u76 a76 z76 v76 hj
  have hlies := X.liesBuilder
  simp only [show bren.t 72 = 76 from rfl] at hlies
  clear L X
  go_enter hf, Tryz.ntmps93
  go_wp2
  rw [Lib.run_neq_ptr_same w _ t74 hj]
  go_wp2
  go_end0
  exact ⟨rfl, rfl⟩
set_option maxHeartbeats 1000000 in
set_option maxRecDepth 100000 in
theorem cc_fresh {P : Program} (hf : P.funcs[93]? = some Tryz.f93) (hx : P.funcs[118]? = some Tryz.f118) (mixed : P.follows .mixedOrders = true) (L : Lays.n169 P bren) (X : Builder.Extra P bren) (t74 : P.underlying 74 = some (.pointer 76)) (a74 : ∀ w, (isAgg 74).run P w = .ok false w) (z74 : ∀ w, (Go.sizeOf 74).run P w = .ok 1 w) (v74 : ∀ w, (zeroValue 74).run P w = .ok (.pointer none) w) (t9 : P.underlying 9 = some (.string)) (a9 : ∀ w, (isAgg 9).run P w = .ok false w) (z9 : ∀ w, (Go.sizeOf 9).run P w = .ok 1 w) (v9 : ∀ w, (zeroValue 9).run P w = .ok (.string ⟨#[]⟩) w) (t4 : P.underlying 4 = some (.bool)) (a4 : ∀ w, (isAgg 4).run P w = .ok false w) (z4 : ∀ w, (Go.sizeOf 4).run P w = .ok 1 w) (v4 : ∀ w, (zeroValue 4).run P w = .ok (.bool false) w) (t125 : P.underlying 125 = some (.unsafePointer)) (a125 : ∀ w, (isAgg 125).run P w = .ok false w) (z125 : ∀ w, (Go.sizeOf 125).run P w = .ok 1 w) (v125 : ∀ w, (zeroValue 125).run P w = .ok (.pointer none) w) (b : Nat) (w : World) (h0 : w.cell? ⟨b, 0, none⟩ = some (.pointer none)) (hsh : w.shape? b = some (76, 2)) (hfz : w.frozen? ⟨b, 0, none⟩ = false) :
    Calls P 93 #[.pointer (some ⟨b, 0, none⟩)] w fun e w' => e = .returned (.tuple #[]) ∧ w' = w.setCell ⟨b, 0, none⟩ (.pointer (some ⟨b, 0, none⟩)) := by
  obtain ⟨j, hj, hjs⟩ := Option.map_eq_some_iff.1 X.sizeBuilder
  have t76 := L.t72; have a76 := L.a72; have z76 := L.z72; have v76 := L.v72; have u76 := run_underlying L.t72
  have u74 := run_underlying t74
  have u9 := run_underlying t9
  have u4 := run_underlying t4
  have u125 := run_underlying t125
  simp only [show bren.t 72 = 76 from rfl, show bren.t 70 = 74 from rfl, show bren.t 37 = 55 from rfl] at t76 u76 a76 z76 v76 hj
  have hlies := X.liesBuilder
  simp only [show bren.t 72 = 76 from rfl] at hlies
  clear L X
  go_enter hf, Tryz.ntmps93
  go_wp2
  rw [Lib.run_to_unsafe w ⟨b, 0, none⟩ t74 t125 hj (by rw [hjs]; decide) hsh (Nat.zero_lt_succ 1)]
  simp only [Result.andThen]
  rw [Oper.upon_value]
  go_wp2
  rw [run_callFunc_extern hx (by kernel_rfl) (by kernel_rfl) (by kernel_rfl) (e := Extern.AbiNoEscape.same) (by kernel_rfl)]
  rw [Lib.run_noEscape]
  simp only [Result.andThen]
  rw [Oper.upon_value]
  go_wp2
  rw [Lib.run_from_unsafe w ⟨b, 0, none⟩ t125 t74 hj hsh hlies]
  simp only [Result.andThen]
  rw [Oper.upon_value]
  go_wp2
  go_end0
  exact ⟨rfl, rfl⟩
theorem bL : Lays.n169 Tryz.prog bren := { Tryz.lays169 with f169 := Tryz.func66.trans (congrArg some (by kernel_rfl)) }
theorem bX : Builder.Extra Tryz.prog bren := {
  sizeBuilder := by kernel_rfl
  liesBuilder := by kernel_rfl
  t5 := Tryz.underlying5
  a5 := Tryz.isAgg5
  z5 := Tryz.sizeOf5
  v5 := Tryz.zeroValue5
  infoByte := by kernel_rfl
  cellsByte := by kernel_rfl
  sizeByte := by kernel_rfl
  neB5 := by decide }
theorem blays : BLays Tryz.prog bren where
  L := bL
  X := bX
  e240 := enters_of Tryz.func93 (by kernel_rfl) rfl
  used := cc_used Tryz.func93 Tryz.func118 (by kernel_rfl) bL bX Tryz.underlying74 Tryz.isAgg74 Tryz.sizeOf74 Tryz.zeroValue74 Tryz.underlying9 Tryz.isAgg9 Tryz.sizeOf9 Tryz.zeroValue9 Tryz.underlying4 Tryz.isAgg4 Tryz.sizeOf4 Tryz.zeroValue4 Tryz.underlying125 Tryz.isAgg125 Tryz.sizeOf125 Tryz.zeroValue125
  fresh := cc_fresh Tryz.func93 Tryz.func118 (by kernel_rfl) bL bX Tryz.underlying74 Tryz.isAgg74 Tryz.sizeOf74 Tryz.zeroValue74 Tryz.underlying9 Tryz.isAgg9 Tryz.sizeOf9 Tryz.zeroValue9 Tryz.underlying4 Tryz.isAgg4 Tryz.sizeOf4 Tryz.zeroValue4 Tryz.underlying125 Tryz.isAgg125 Tryz.sizeOf125 Tryz.zeroValue125
theorem bL4 : Lays.n241 Tryz.prog bren := { Tryz.lays241 with f241 := Tryz.func120.trans (congrArg some (by kernel_rfl)), f277 := Tryz.func136.trans (congrArg some (by kernel_rfl)) }
theorem b167 : Tryz.prog.funcs[bren.f 167]? = some (Body.n167 bren) := Tryz.func87.trans (congrArg some (by kernel_rfl))
theorem b166 : Tryz.prog.funcs[bren.f 166]? = some (Body.n166 bren) := Tryz.func64.trans (congrArg some (by kernel_rfl))
theorem b165 : Tryz.prog.funcs[bren.f 165]? = some (Body.n165 bren) := Tryz.func97.trans (congrArg some (by kernel_rfl))
end Go.Proofs.YtjicgjhhiallkaaGreatDoorBv
