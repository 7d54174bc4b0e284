/- strings.Builder at this program's numbers: its copyCheck walked, and what the writing methods lean on. Printed by a program of mine (bld.py). -/
import Derived.Test.YtdmmjgjmfpalhaaDoorShelf
import Derived.Test.YtdmmjgjmfpalhaaDoorBv29
namespace Go.Proofs.YtdmmjgjmfpalhaaDoorBv
open Go Go.Shelf Go.RowKit Go.Proofs
set_option linter.unusedVariables false
def bren : Ren := ⟨fun | 169 => 63 | 167 => 60 | 166 => 61 | 240 => 105 | n => n, fun | 70 => 91 | 9 => 9 | 0 => 0 | 72 => 93 | 37 => 83 | 127 => 145 | 3 => 3 | 5 => 5 | 75 => 96 | n => n, fun | n => n⟩
set_option maxHeartbeats 1000000 in
set_option maxRecDepth 100000 in
theorem cc_used {P : Program} (hf : P.funcs[105]? = some Tryd.f105) (hx : P.funcs[147]? = some Tryd.f147) (mixed : P.follows .mixedOrders = true) (L : Lays.n169 P bren) (X : Builder.Extra P bren) (t91 : P.underlying 91 = some (.pointer 93)) (a91 : ∀ w, (isAgg 91).run P w = .ok false w) (z91 : ∀ w, (Go.sizeOf 91).run P w = .ok 1 w) (v91 : ∀ w, (zeroValue 91).run P w = .ok (.pointer none) w) (t9 : P.underlying 9 = some (.string)) (a9 : ∀ w, (isAgg 9).run P w = .ok false w) (z9 : ∀ w, (Go.sizeOf 9).run P w = .ok 1 w) (v9 : ∀ w, (zeroValue 9).run P w = .ok (.string ⟨#[]⟩) w) (t4 : P.underlying 4 = some (.bool)) (a4 : ∀ w, (isAgg 4).run P w = .ok false w) (z4 : ∀ w, (Go.sizeOf 4).run P w = .ok 1 w) (v4 : ∀ w, (zeroValue 4).run P w = .ok (.bool false) w) (t167 : P.underlying 167 = some (.unsafePointer)) (a167 : ∀ w, (isAgg 167).run P w = .ok false w) (z167 : ∀ w, (Go.sizeOf 167).run P w = .ok 1 w) (v167 : ∀ w, (zeroValue 167).run P w = .ok (.pointer none) w) (b : Nat) (w : World) (h0 : w.cell? ⟨b, 0, none⟩ = some (.pointer (some ⟨b, 0, none⟩))) :
    Calls P 105 #[.pointer (some ⟨b, 0, none⟩)] w fun e w' => e = .returned (.tuple #[]) ∧ w' = w := by
  obtain ⟨j, hj, _⟩ := Option.map_eq_some_iff.1 X.sizeBuilder
  have t93 := L.t72; have a93 := L.a72; have z93 := L.z72; have v93 := L.v72; have u93 := run_underlying L.t72
  have u91 := run_underlying t91
  have u9 := run_underlying t9
  have u4 := run_underlying t4
  have u167 := run_underlying t167
  simp only [show bren.t 72 = 93 from rfl, show bren.t 70 = 91 from rfl, show bren.t 37 = 83 from rfl] at t93 u93 a93 z93 v93 hj
  have hlies := X.liesBuilder
  simp only [show bren.t 72 = 93 from rfl] at hlies
  clear L X
  go_enter hf, Tryd.ntmps105
  go_wp2
  rw [Lib.run_neq_ptr_same w _ t91 hj]
  go_wp2
  go_end0
  exact ⟨rfl, rfl⟩
set_option maxHeartbeats 1000000 in
set_option maxRecDepth 100000 in
theorem cc_fresh {P : Program} (hf : P.funcs[105]? = some Tryd.f105) (hx : P.funcs[147]? = some Tryd.f147) (mixed : P.follows .mixedOrders = true) (L : Lays.n169 P bren) (X : Builder.Extra P bren) (t91 : P.underlying 91 = some (.pointer 93)) (a91 : ∀ w, (isAgg 91).run P w = .ok false w) (z91 : ∀ w, (Go.sizeOf 91).run P w = .ok 1 w) (v91 : ∀ w, (zeroValue 91).run P w = .ok (.pointer none) w) (t9 : P.underlying 9 = some (.string)) (a9 : ∀ w, (isAgg 9).run P w = .ok false w) (z9 : ∀ w, (Go.sizeOf 9).run P w = .ok 1 w) (v9 : ∀ w, (zeroValue 9).run P w = .ok (.string ⟨#[]⟩) w) (t4 : P.underlying 4 = some (.bool)) (a4 : ∀ w, (isAgg 4).run P w = .ok false w) (z4 : ∀ w, (Go.sizeOf 4).run P w = .ok 1 w) (v4 : ∀ w, (zeroValue 4).run P w = .ok (.bool false) w) (t167 : P.underlying 167 = some (.unsafePointer)) (a167 : ∀ w, (isAgg 167).run P w = .ok false w) (z167 : ∀ w, (Go.sizeOf 167).run P w = .ok 1 w) (v167 : ∀ w, (zeroValue 167).run P w = .ok (.pointer none) w) (b : Nat) (w : World) (h0 : w.cell? ⟨b, 0, none⟩ = some (.pointer none)) (hsh : w.shape? b = some (93, 2)) (hfz : w.frozen? ⟨b, 0, none⟩ = false) :
    Calls P 105 #[.pointer (some ⟨b, 0, none⟩)] w fun e w' => e = .returned (.tuple #[]) ∧ w' = w.setCell ⟨b, 0, none⟩ (.pointer (some ⟨b, 0, none⟩)) := by
  obtain ⟨j, hj, hjs⟩ := Option.map_eq_some_iff.1 X.sizeBuilder
  have t93 := L.t72; have a93 := L.a72; have z93 := L.z72; have v93 := L.v72; have u93 := run_underlying L.t72
  have u91 := run_underlying t91
  have u9 := run_underlying t9
  have u4 := run_underlying t4
  have u167 := run_underlying t167
  simp only [show bren.t 72 = 93 from rfl, show bren.t 70 = 91 from rfl, show bren.t 37 = 83 from rfl] at t93 u93 a93 z93 v93 hj
  have hlies := X.liesBuilder
  simp only [show bren.t 72 = 93 from rfl] at hlies
  clear L X
  go_enter hf, Tryd.ntmps105
  go_wp2
  rw [Lib.run_to_unsafe w ⟨b, 0, none⟩ t91 t167 hj (by rw [hjs]; decide) hsh (Nat.zero_lt_succ 1)]
  simp only [Result.andThen]
  rw [Oper.upon_value]
  go_wp2
  rw [run_callFunc_extern hx (by kernel_rfl) (by kernel_rfl) (by kernel_rfl) (e := Extern.AbiNoEscape.same) (by kernel_rfl)]
  rw [Lib.run_noEscape]
  simp only [Result.andThen]
  rw [Oper.upon_value]
  go_wp2
  rw [Lib.run_from_unsafe w ⟨b, 0, none⟩ t167 t91 hj hsh hlies]
  simp only [Result.andThen]
  rw [Oper.upon_value]
  go_wp2
  go_end0
  exact ⟨rfl, rfl⟩
theorem bL : Lays.n169 Tryd.prog bren := { Tryd.lays169 with f169 := Tryd.func63.trans (congrArg some (by kernel_rfl)) }
theorem bX : Builder.Extra Tryd.prog bren := {
  sizeBuilder := by kernel_rfl
  liesBuilder := by kernel_rfl
  t5 := Tryd.underlying5
  a5 := Tryd.isAgg5
  z5 := Tryd.sizeOf5
  v5 := Tryd.zeroValue5
  infoByte := by kernel_rfl
  cellsByte := by kernel_rfl
  sizeByte := by kernel_rfl
  neB5 := by decide }
theorem blays : BLays Tryd.prog bren where
  L := bL
  X := bX
  e240 := enters_of Tryd.func105 (by kernel_rfl) rfl
  used := cc_used Tryd.func105 Tryd.func147 (by kernel_rfl) bL bX Tryd.underlying91 Tryd.isAgg91 Tryd.sizeOf91 Tryd.zeroValue91 Tryd.underlying9 Tryd.isAgg9 Tryd.sizeOf9 Tryd.zeroValue9 Tryd.underlying4 Tryd.isAgg4 Tryd.sizeOf4 Tryd.zeroValue4 Tryd.underlying167 Tryd.isAgg167 Tryd.sizeOf167 Tryd.zeroValue167
  fresh := cc_fresh Tryd.func105 Tryd.func147 (by kernel_rfl) bL bX Tryd.underlying91 Tryd.isAgg91 Tryd.sizeOf91 Tryd.zeroValue91 Tryd.underlying9 Tryd.isAgg9 Tryd.sizeOf9 Tryd.zeroValue9 Tryd.underlying4 Tryd.isAgg4 Tryd.sizeOf4 Tryd.zeroValue4 Tryd.underlying167 Tryd.isAgg167 Tryd.sizeOf167 Tryd.zeroValue167
theorem b167 : Tryd.prog.funcs[bren.f 167]? = some (Body.n167 bren) := Tryd.func60.trans (congrArg some (by kernel_rfl))
theorem b166 : Tryd.prog.funcs[bren.f 166]? = some (Body.n166 bren) := Tryd.func61.trans (congrArg some (by kernel_rfl))
end Go.Proofs.YtdmmjgjmfpalhaaDoorBv
