/- The calculus: strings.Builder's Grow, at a builder that is nil. It proves nothing of any program. -/
import Derived.Test.YtcnfmehidmjejaaGreatDoorBv29
import Derived.Shelf.Strings.Builder2
namespace Go.Proofs.YtcnfmehidmjejaaGreatDoorBv
open Go Go.Shelf Go.RowKit Go.Proofs
set_option linter.unusedVariables false
set_option linter.unusedSimpArgs false
section
variable {P : Program} {ρ : Ren}
theorem grown_kept {T e : TypeId} {b : Nat} {p : Value} {w : World} {cs : Array Value} (hbk : w.heap[b]? = some (.cells #[p, .slice none 0 0] T (0, 0))) (hm : cs.size ≤ maxLen) (hTe : T ≠ e) :
    Bld T e b p (.slice (some ⟨w.heap.size, 0, none⟩) 0 cs.size) [] ((w.alloc (.cells cs e)).setCell ⟨b, 1, none⟩ (.slice (some ⟨w.heap.size, 0, none⟩) 0 cs.size)).drew.drew.drew ∧
      Kept2 b (.slice none 0 0) (.slice (some ⟨w.heap.size, 0, none⟩) 0 cs.size) w ((w.alloc (.cells cs e)).setCell ⟨b, 1, none⟩ (.slice (some ⟨w.heap.size, 0, none⟩) 0 cs.size)).drew.drew.drew := by
  have hlt : b < w.heap.size := (Array.getElem?_eq_some_iff.1 hbk).1
  have hb2 : (w.alloc (.cells cs e)).heap[b]? = some (.cells #[p, .slice none 0 0] T (0, 0)) := (Lib.alloc_old w _ b hlt).trans hbk
  have hown : (w.alloc (.cells cs e)).ownsRow 0 e 1 (.slice (some ⟨w.heap.size, 0, none⟩) 0 cs.size) ([] : List Value).length [] :=
    ⟨rfl, .inr ⟨w.heap.size, cs.size, cs, rfl, Nat.zero_le _, (by rw [alloc_heap, if_pos rfl]), Nat.zero_le _, hm, by simp, by simp⟩⟩
  have B := Bld.set1 hb2 (bs' := []) hown hTe
  refine ⟨⟨B.blk, B.own, B.ne⟩, rfl, rfl, rfl, ?_, fun k hk hkb _ => ?_, .inr ⟨_, rfl, Nat.le_refl _⟩⟩
  · show w.heap.size ≤ ((w.alloc (.cells cs e)).setCell ⟨b, 1, none⟩ _).heap.size
    simp [World.setCell]
  · show ((w.alloc (.cells cs e)).setCell ⟨b, 1, none⟩ _).heap[k]? = _
    rw [Below.heap_setCell _ _ _ _ hkb]
    exact Lib.alloc_old w _ k hk
set_option maxHeartbeats 2000000 in
set_option maxRecDepth 1000000 in
theorem grow_kept (L : Lays.n241 P ρ) (X : Builder.Extra P ρ) {b n : Nat} {w : World} (hbk : w.heap[b]? = some (.cells #[at0 b, .slice none 0 0] (ρ.t 72) (0, 0))) (hn : n ≤ 281474976710656) :
    Calls P (ρ.f 241) #[at0 b, .int .i64 n] w fun r w' => r = .returned (.tuple #[]) ∧ ∃ v', Bld (ρ.t 72) (ρ.t 5) b (at0 b) v' [] w' ∧ Kept2 b (.slice none 0 0) v' w w' := by
  obtain ⟨cs, hrun, hle, hmax⟩ := Lib.run_makeNoZero (P := P) w.drew #[(ρ.t 3)] (ρ.t 37) (ρ.t 5) L.t37 n hn
  have hw : IntKind.i64.wrap (IntKind.i64.wrap 0 + (n : Int)) = n := by
    rw [IntKind.wrap_i64, IntKind.wrap_i64]
    omega
  have hcall : (callFunc (ρ.f 277) #[.int .i64 (IntKind.i64.wrap (IntKind.i64.wrap 0 + (n : Int)))]).run P w.drew = .ok (.value (.slice (some ⟨w.drew.heap.size, 0, none⟩) n cs.size)) (w.drew.drew.drew.alloc (.cells cs (ρ.t 5))) := by
    rw [hw, run_callFunc_extern L.f277 (by kernel_rfl) (by kernel_rfl) (by kernel_rfl) (e := Extern.BytealgMakeNoZero.makeNoZero #[(ρ.t 3)] #[(ρ.t 37)]) (by kernel_rfl), hrun]
    rfl
  have hlt : b < w.heap.size := (Array.getElem?_eq_some_iff.1 hbk).1
  have c1 : w.drew.cell? ⟨b, 1, none⟩ = some (.slice none 0 0) := by
    have : w.drew.heap[b]? = _ := hbk
    rw [Lib.cell_of_heap this]; rfl
  have c2 : (w.alloc (.cells cs (ρ.t 5))).cell? ⟨b, 1, none⟩ = some (.slice none 0 0) := by
    have : (w.alloc (.cells cs (ρ.t 5))).heap[b]? = _ := (Lib.alloc_old w _ b hlt).trans hbk
    rw [Lib.cell_of_heap this]; rfl
  have f2 : (w.alloc (.cells cs (ρ.t 5))).frozen? ⟨b, 1, none⟩ = false := Lib.frozen_of_heap ((Lib.alloc_old w _ b hlt).trans hbk) 1
  have hcopy : ∀ W : World, (Builtin.copy_ #[(ρ.t 37), (ρ.t 37)] (ρ.t 3) #[.slice (some ⟨w.heap.size, 0, none⟩) 0 cs.size, .slice none 0 0]).run P W = .ok (goInt 0) W :=
    fun W => run_copy_none W (ρ.t 37) (ρ.t 37) (ρ.t 3) (ρ.t 5) _ _ 0 cs.size 0 0 L.t37 X.sizeByte rfl
  clear hw hlt
  have mixed := L.mixed
  have t72 := L.t72; have a72 := L.a72; have z72 := L.z72; have v72 := L.v72; have u72 := run_underlying L.t72
  have t70 := L.t70; have a70 := L.a70; have z70 := L.z70; have v70 := L.v70; have u70 := run_underlying L.t70
  have t37 := L.t37; have a37 := L.a37; have z37 := L.z37; have v37 := L.v37; have u37 := run_underlying L.t37
  have t3 := L.t3; have a3 := L.a3; have z3 := L.z3; have v3 := L.v3; have u3 := run_underlying L.t3
  have t5 := X.t5; have a5 := X.a5; have z5 := X.z5; have v5 := X.v5; have u5 := run_underlying X.t5
  go_enter L.f241, Body.n241_ntmps ρ
  go_wp2
  have hfin := grown_kept (T := (ρ.t 72)) (e := (ρ.t 5)) (cs := cs) hbk (hmax (by unfold maxLen; omega)) X.neB5
  go_region_o
  all_goals (go_wp2; go_end0; exact ⟨rfl, _, hfin⟩)
end
end Go.Proofs.YtcnfmehidmjejaaGreatDoorBv
