/- strings.Builder at this program's numbers: its copyCheck walked, and what the writing methods lean on. Printed by a program of mine (bld.py). -/
import Derived.Test.YtcnfmehidmjejaaDoorShelf
import Derived.Test.YtcnfmehidmjejaaDoorBv29
namespace Go.Proofs.YtcnfmehidmjejaaDoorBv
open Go Go.Shelf Go.RowKit Go.Proofs
set_option linter.unusedVariables false
def bren : Ren := ⟨fun | 169 => 25 | 167 => 66 | 166 => 24 | 240 => 39 | 165 => 23 | 241 => 40 | 277 => 60 | n => n, fun | 70 => 49 | 9 => 9 | 0 => 0 | 72 => 52 | 37 => 50 | 127 => 76 | 3 => 3 | 5 => 5 | 75 => 55 | n => n, fun | n => n⟩
set_option maxHeartbeats 1000000 in
set_option maxRecDepth 100000 in
theorem cc_used {P : Program} (hf : P.funcs[39]? = some Tryd.f39) (hx : P.funcs[59]? = some Tryd.f59) (mixed : P.follows .mixedOrders = true) (L : Lays.n169 P bren) (X : Builder.Extra P bren) (t49 : P.underlying 49 = some (.pointer 52)) (a49 : ∀ w, (isAgg 49).run P w = .ok false w) (z49 : ∀ w, (Go.sizeOf 49).run P w = .ok 1 w) (v49 : ∀ w, (zeroValue 49).run P w = .ok (.pointer none) w) (t9 : P.underlying 9 = some (.string)) (a9 : ∀ w, (isAgg 9).run P w = .ok false w) (z9 : ∀ w, (Go.sizeOf 9).run P w = .ok 1 w) (v9 : ∀ w, (zeroValue 9).run P w = .ok (.string ⟨#[]⟩) w) (t4 : P.underlying 4 = some (.bool)) (a4 : ∀ w, (isAgg 4).run P w = .ok false w) (z4 : ∀ w, (Go.sizeOf 4).run P w = .ok 1 w) (v4 : ∀ w, (zeroValue 4).run P w = .ok (.bool false) w) (t92 : P.underlying 92 = some (.unsafePointer)) (a92 : ∀ w, (isAgg 92).run P w = .ok false w) (z92 : ∀ w, (Go.sizeOf 92).run P w = .ok 1 w) (v92 : ∀ w, (zeroValue 92).run P w = .ok (.pointer none) w) (b : Nat) (w : World) (h0 : w.cell? ⟨b, 0, none⟩ = some (.pointer (some ⟨b, 0, none⟩))) :
    Calls P 39 #[.pointer (some ⟨b, 0, none⟩)] w fun e w' => e = .returned (.tuple #[]) ∧ w' = w := by
  obtain ⟨j, hj, _⟩ := Option.map_eq_some_iff.1 X.sizeBuilder
  have t52 := L.t72; have a52 := L.a72; have z52 := L.z72; have v52 := L.v72; have u52 := run_underlying L.t72
  have u49 := run_underlying t49
  have u9 := run_underlying t9
  have u4 := run_underlying t4
  have u92 := run_underlying t92
  simp only [show bren.t 72 = 52 from rfl, show bren.t 70 = 49 from rfl, show bren.t 37 = 50 from rfl] at t52 u52 a52 z52 v52 hj
  have hlies := X.liesBuilder
  simp only [show bren.t 72 = 52 from rfl] at hlies
  clear L X
  go_enter hf, Tryd.ntmps39
  go_wp2
  rw [Lib.run_neq_ptr_same w _ t49 hj]
  go_wp2
  go_end0
  exact ⟨rfl, rfl⟩
set_option maxHeartbeats 1000000 in
set_option maxRecDepth 100000 in
theorem cc_fresh {P : Program} (hf : P.funcs[39]? = some Tryd.f39) (hx : P.funcs[59]? = some Tryd.f59) (mixed : P.follows .mixedOrders = true) (L : Lays.n169 P bren) (X : Builder.Extra P bren) (t49 : P.underlying 49 = some (.pointer 52)) (a49 : ∀ w, (isAgg 49).run P w = .ok false w) (z49 : ∀ w, (Go.sizeOf 49).run P w = .ok 1 w) (v49 : ∀ w, (zeroValue 49).run P w = .ok (.pointer none) w) (t9 : P.underlying 9 = some (.string)) (a9 : ∀ w, (isAgg 9).run P w = .ok false w) (z9 : ∀ w, (Go.sizeOf 9).run P w = .ok 1 w) (v9 : ∀ w, (zeroValue 9).run P w = .ok (.string ⟨#[]⟩) w) (t4 : P.underlying 4 = some (.bool)) (a4 : ∀ w, (isAgg 4).run P w = .ok false w) (z4 : ∀ w, (Go.sizeOf 4).run P w = .ok 1 w) (v4 : ∀ w, (zeroValue 4).run P w = .ok (.bool false) w) (t92 : P.underlying 92 = some (.unsafePointer)) (a92 : ∀ w, (isAgg 92).run P w = .ok false w) (z92 : ∀ w, (Go.sizeOf 92).run P w = .ok 1 w) (v92 : ∀ w, (zeroValue 92).run P w = .ok (.pointer none) w) (b : Nat) (w : World) (h0 : w.cell? ⟨b, 0, none⟩ = some (.pointer none)) (hsh : w.shape? b = some (52, 2)) (hfz : w.frozen? ⟨b, 0, none⟩ = false) :
    Calls P 39 #[.pointer (some ⟨b, 0, none⟩)] w fun e w' => e = .returned (.tuple #[]) ∧ w' = w.setCell ⟨b, 0, none⟩ (.pointer (some ⟨b, 0, none⟩)) := by
  obtain ⟨j, hj, hjs⟩ := Option.map_eq_some_iff.1 X.sizeBuilder
  have t52 := L.t72; have a52 := L.a72; have z52 := L.z72; have v52 := L.v72; have u52 := run_underlying L.t72
  have u49 := run_underlying t49
  have u9 := run_underlying t9
  have u4 := run_underlying t4
  have u92 := run_underlying t92
  simp only [show bren.t 72 = 52 from rfl, show bren.t 70 = 49 from rfl, show bren.t 37 = 50 from rfl] at t52 u52 a52 z52 v52 hj
  have hlies := X.liesBuilder
  simp only [show bren.t 72 = 52 from rfl] at hlies
  clear L X
  go_enter hf, Tryd.ntmps39
  go_wp2
  rw [Lib.run_to_unsafe w ⟨b, 0, none⟩ t49 t92 hj (by rw [hjs]; decide) hsh (Nat.zero_lt_succ 1)]
  simp only [Result.andThen]
  rw [Oper.upon_value]
  go_wp2
  rw [run_callFunc_extern hx (by kernel_rfl) (by kernel_rfl) (by kernel_rfl) (e := Extern.AbiNoEscape.same) (by kernel_rfl)]
  rw [Lib.run_noEscape]
  simp only [Result.andThen]
  rw [Oper.upon_value]
  go_wp2
  rw [Lib.run_from_unsafe w ⟨b, 0, none⟩ t92 t49 hj hsh hlies]
  simp only [Result.andThen]
  rw [Oper.upon_value]
  go_wp2
  go_end0
  exact ⟨rfl, rfl⟩
theorem bL : Lays.n169 Tryd.prog bren := { Tryd.lays169 with f169 := Tryd.func25.trans (congrArg some (by kernel_rfl)) }
theorem bX : Builder.Extra Tryd.prog bren := {
  sizeBuilder := by kernel_rfl
  liesBuilder := by kernel_rfl
  t5 := Tryd.underlying5
  a5 := Tryd.isAgg5
  z5 := Tryd.sizeOf5
  v5 := Tryd.zeroValue5
  infoByte := by kernel_rfl
  cellsByte := by kernel_rfl
  sizeByte := by kernel_rfl
  neB5 := by decide }
theorem blays : BLays Tryd.prog bren where
  L := bL
  X := bX
  e240 := enters_of Tryd.func39 (by kernel_rfl) rfl
  used := cc_used Tryd.func39 Tryd.func59 (by kernel_rfl) bL bX Tryd.underlying49 Tryd.isAgg49 Tryd.sizeOf49 Tryd.zeroValue49 Tryd.underlying9 Tryd.isAgg9 Tryd.sizeOf9 Tryd.zeroValue9 Tryd.underlying4 Tryd.isAgg4 Tryd.sizeOf4 Tryd.zeroValue4 Tryd.underlying92 Tryd.isAgg92 Tryd.sizeOf92 Tryd.zeroValue92
  fresh := cc_fresh Tryd.func39 Tryd.func59 (by kernel_rfl) bL bX Tryd.underlying49 Tryd.isAgg49 Tryd.sizeOf49 Tryd.zeroValue49 Tryd.underlying9 Tryd.isAgg9 Tryd.sizeOf9 Tryd.zeroValue9 Tryd.underlying4 Tryd.isAgg4 Tryd.sizeOf4 Tryd.zeroValue4 Tryd.underlying92 Tryd.isAgg92 Tryd.sizeOf92 Tryd.zeroValue92
theorem bL4 : Lays.n241 Tryd.prog bren := { Tryd.lays241 with f241 := Tryd.func40.trans (congrArg some (by kernel_rfl)), f277 := Tryd.func60.trans (congrArg some (by kernel_rfl)) }
theorem b167 : Tryd.prog.funcs[bren.f 167]? = some (Body.n167 bren) := Tryd.func66.trans (congrArg some (by kernel_rfl))
theorem b166 : Tryd.prog.funcs[bren.f 166]? = some (Body.n166 bren) := Tryd.func24.trans (congrArg some (by kernel_rfl))
theorem b165 : Tryd.prog.funcs[bren.f 165]? = some (Body.n165 bren) := Tryd.func23.trans (congrArg some (by kernel_rfl))
end Go.Proofs.YtcnfmehidmjejaaDoorBv
