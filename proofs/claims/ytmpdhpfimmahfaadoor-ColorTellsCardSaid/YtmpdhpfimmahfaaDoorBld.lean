/- strings.Builder at this program's numbers: its copyCheck walked, and what the writing methods lean on. Printed by a program of mine (bld.py). -/
import Derived.Test.YtmpdhpfimmahfaaDoorShelf
import Derived.Test.YtmpdhpfimmahfaaDoorBv29
namespace Go.Proofs.YtmpdhpfimmahfaaDoorBv
open Go Go.Shelf Go.RowKit Go.Proofs
set_option linter.unusedVariables false
def bren : Ren := ⟨fun | 169 => 59 | 166 => 57 | 240 => 78 | 165 => 81 | 241 => 106 | 277 => 126 | n => n, fun | 70 => 66 | 9 => 9 | 0 => 0 | 72 => 68 | 37 => 65 | 127 => 93 | 3 => 3 | 5 => 5 | 75 => 70 | n => n, fun | n => n⟩
set_option maxHeartbeats 1000000 in
set_option maxRecDepth 100000 in
theorem cc_used {P : Program} (hf : P.funcs[78]? = some Tryd.f78) (hx : P.funcs[103]? = some Tryd.f103) (mixed : P.follows .mixedOrders = true) (L : Lays.n169 P bren) (X : Builder.Extra P bren) (t66 : P.underlying 66 = some (.pointer 68)) (a66 : ∀ w, (isAgg 66).run P w = .ok false w) (z66 : ∀ w, (Go.sizeOf 66).run P w = .ok 1 w) (v66 : ∀ w, (zeroValue 66).run P w = .ok (.pointer none) w) (t9 : P.underlying 9 = some (.string)) (a9 : ∀ w, (isAgg 9).run P w = .ok false w) (z9 : ∀ w, (Go.sizeOf 9).run P w = .ok 1 w) (v9 : ∀ w, (zeroValue 9).run P w = .ok (.string ⟨#[]⟩) w) (t4 : P.underlying 4 = some (.bool)) (a4 : ∀ w, (isAgg 4).run P w = .ok false w) (z4 : ∀ w, (Go.sizeOf 4).run P w = .ok 1 w) (v4 : ∀ w, (zeroValue 4).run P w = .ok (.bool false) w) (t108 : P.underlying 108 = some (.unsafePointer)) (a108 : ∀ w, (isAgg 108).run P w = .ok false w) (z108 : ∀ w, (Go.sizeOf 108).run P w = .ok 1 w) (v108 : ∀ w, (zeroValue 108).run P w = .ok (.pointer none) w) (b : Nat) (w : World) (h0 : w.cell? ⟨b, 0, none⟩ = some (.pointer (some ⟨b, 0, none⟩))) :
    Calls P 78 #[.pointer (some ⟨b, 0, none⟩)] w fun e w' => e = .returned (.tuple #[]) ∧ w' = w := by
  obtain ⟨j, hj, _⟩ := Option.map_eq_some_iff.1 X.sizeBuilder
  have t68 := L.t72; have a68 := L.a72; have z68 := L.z72; have v68 := L.v72; have u68 := run_underlying L.t72
  have u66 := run_underlying t66
  have u9 := run_underlying t9
  have u4 := run_underlying t4
  have u108 := run_underlying t108
  simp only [show bren.t 72 = 68 from rfl, show bren.t 70 = 66 from rfl, show bren.t 37 = 65 from rfl] at t68 u68 a68 z68 v68 hj
  have hlies := X.liesBuilder
  simp only [show bren.t 72 = 68 from rfl] at hlies
  clear L X
  go_enter hf, Tryd.ntmps78
  go_wp2
  rw [Lib.run_neq_ptr_same w _ t66 hj]
  go_wp2
  go_end0
  exact ⟨rfl, rfl⟩
set_option maxHeartbeats 1000000 in
set_option maxRecDepth 100000 in
theorem cc_fresh {P : Program} (hf : P.funcs[78]? = some Tryd.f78) (hx : P.funcs[103]? = some Tryd.f103) (mixed : P.follows .mixedOrders = true) (L : Lays.n169 P bren) (X : Builder.Extra P bren) (t66 : P.underlying 66 = some (.pointer 68)) (a66 : ∀ w, (isAgg 66).run P w = .ok false w) (z66 : ∀ w, (Go.sizeOf 66).run P w = .ok 1 w) (v66 : ∀ w, (zeroValue 66).run P w = .ok (.pointer none) w) (t9 : P.underlying 9 = some (.string)) (a9 : ∀ w, (isAgg 9).run P w = .ok false w) (z9 : ∀ w, (Go.sizeOf 9).run P w = .ok 1 w) (v9 : ∀ w, (zeroValue 9).run P w = .ok (.string ⟨#[]⟩) w) (t4 : P.underlying 4 = some (.bool)) (a4 : ∀ w, (isAgg 4).run P w = .ok false w) (z4 : ∀ w, (Go.sizeOf 4).run P w = .ok 1 w) (v4 : ∀ w, (zeroValue 4).run P w = .ok (.bool false) w) (t108 : P.underlying 108 = some (.unsafePointer)) (a108 : ∀ w, (isAgg 108).run P w = .ok false w) (z108 : ∀ w, (Go.sizeOf 108).run P w = .ok 1 w) (v108 : ∀ w, (zeroValue 108).run P w = .ok (.pointer none) w) (b : Nat) (w : World) (h0 : w.cell? ⟨b, 0, none⟩ = some (.pointer none)) (hsh : w.shape? b = some (68, 2)) (hfz : w.frozen? ⟨b, 0, none⟩ = false) :
    Calls P 78 #[.pointer (some ⟨b, 0, none⟩)] w fun e w' => e = .returned (.tuple #[]) ∧ w' = w.setCell ⟨b, 0, none⟩ (.pointer (some ⟨b, 0, none⟩)) := by
  obtain ⟨j, hj, hjs⟩ := Option.map_eq_some_iff.1 X.sizeBuilder
  have t68 := L.t72; have a68 := L.a72; have z68 := L.z72; have v68 := L.v72; have u68 := run_underlying L.t72
  have u66 := run_underlying t66
  have u9 := run_underlying t9
  have u4 := run_underlying t4
  have u108 := run_underlying t108
  simp only [show bren.t 72 = 68 from rfl, show bren.t 70 = 66 from rfl, show bren.t 37 = 65 from rfl] at t68 u68 a68 z68 v68 hj
  have hlies := X.liesBuilder
  simp only [show bren.t 72 = 68 from rfl] at hlies
  clear L X
  go_enter hf, Tryd.ntmps78
  go_wp2
  rw [Lib.run_to_unsafe w ⟨b, 0, none⟩ t66 t108 hj (by rw [hjs]; decide) hsh (Nat.zero_lt_succ 1)]
  simp only [Result.andThen]
  rw [Oper.upon_value]
  go_wp2
  rw [run_callFunc_extern hx (by kernel_rfl) (by kernel_rfl) (by kernel_rfl) (e := Extern.AbiNoEscape.same) (by kernel_rfl)]
  rw [Lib.run_noEscape]
  simp only [Result.andThen]
  rw [Oper.upon_value]
  go_wp2
  rw [Lib.run_from_unsafe w ⟨b, 0, none⟩ t108 t66 hj hsh hlies]
  simp only [Result.andThen]
  rw [Oper.upon_value]
  go_wp2
  go_end0
  exact ⟨rfl, rfl⟩
theorem bL : Lays.n169 Tryd.prog bren := { Tryd.lays169 with f169 := Tryd.func59.trans (congrArg some (by kernel_rfl)) }
theorem bX : Builder.Extra Tryd.prog bren := {
  sizeBuilder := by kernel_rfl
  liesBuilder := by kernel_rfl
  t5 := Tryd.underlying5
  a5 := Tryd.isAgg5
  z5 := Tryd.sizeOf5
  v5 := Tryd.zeroValue5
  infoByte := by kernel_rfl
  cellsByte := by kernel_rfl
  sizeByte := by kernel_rfl
  neB5 := by decide }
theorem blays : BLays Tryd.prog bren where
  L := bL
  X := bX
  e240 := enters_of Tryd.func78 (by kernel_rfl) rfl
  used := cc_used Tryd.func78 Tryd.func103 (by kernel_rfl) bL bX Tryd.underlying66 Tryd.isAgg66 Tryd.sizeOf66 Tryd.zeroValue66 Tryd.underlying9 Tryd.isAgg9 Tryd.sizeOf9 Tryd.zeroValue9 Tryd.underlying4 Tryd.isAgg4 Tryd.sizeOf4 Tryd.zeroValue4 Tryd.underlying108 Tryd.isAgg108 Tryd.sizeOf108 Tryd.zeroValue108
  fresh := cc_fresh Tryd.func78 Tryd.func103 (by kernel_rfl) bL bX Tryd.underlying66 Tryd.isAgg66 Tryd.sizeOf66 Tryd.zeroValue66 Tryd.underlying9 Tryd.isAgg9 Tryd.sizeOf9 Tryd.zeroValue9 Tryd.underlying4 Tryd.isAgg4 Tryd.sizeOf4 Tryd.zeroValue4 Tryd.underlying108 Tryd.isAgg108 Tryd.sizeOf108 Tryd.zeroValue108
theorem bL4 : Lays.n241 Tryd.prog bren := { Tryd.lays241 with f241 := Tryd.func106.trans (congrArg some (by kernel_rfl)), f277 := Tryd.func126.trans (congrArg some (by kernel_rfl)) }
theorem b166 : Tryd.prog.funcs[bren.f 166]? = some (Body.n166 bren) := Tryd.func57.trans (congrArg some (by kernel_rfl))
theorem b165 : Tryd.prog.funcs[bren.f 165]? = some (Body.n165 bren) := Tryd.func81.trans (congrArg some (by kernel_rfl))
end Go.Proofs.YtmpdhpfimmahfaaDoorBv
