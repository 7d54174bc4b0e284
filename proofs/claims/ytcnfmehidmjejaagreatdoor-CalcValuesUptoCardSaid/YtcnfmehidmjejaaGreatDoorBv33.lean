/- The calculus: strings.Builder's Grow, at a builder that is nil: its contract. It proves nothing of any program. -/
import Derived.Test.YtcnfmehidmjejaaGreatDoorBv32
namespace Go.Proofs.YtcnfmehidmjejaaGreatDoorBv
open Go Go.Shelf Go.RowKit Go.Proofs
set_option linter.unusedVariables false
set_option linter.unusedSimpArgs false
section
variable {P : Program} {ρ : Ren}
theorem Kept2.trans0 {b : Nat} {v v' : Value} {w w1 w2 : World} (h : Kept2 b v v w w1) (k : Kept2 b v v' w1 w2) : Kept2 b v v' w w2 :=
  ⟨k.os.trans h.os, k.tape.trans h.tape, k.output.trans h.output, Nat.le_trans h.size k.size, fun i hi hb hv => (k.block i (Nat.lt_of_lt_of_le hi h.size) hb hv).trans (h.block i hi hb hv),
    k.moved.imp id fun ⟨g, h1, h2⟩ => ⟨g, h1, Nat.le_trans h.size h2⟩⟩
theorem Kept2.drew0 {b : Nat} {v : Value} {w : World} : Kept2 b v v w w.drew := ⟨rfl, rfl, rfl, Nat.le_refl _, fun _ _ _ _ => rfl, .inl rfl⟩
set_option maxHeartbeats 2000000 in
set_option maxRecDepth 1000000 in
theorem Grow_kept (B0 : BLays P ρ) (L4 : Lays.n241 P ρ) (hf : P.funcs[ρ.f 165]? = some (Body.n165 ρ)) {b n : Nat} {p : Value} {w : World} (h : Bld (ρ.t 72) (ρ.t 5) b p (.slice none 0 0) [] w) (hp : p = .pointer none ∨ p = at0 b) (hn : n ≤ 281474976710656) :
    Calls P (ρ.f 165) #[at0 b, .int .i64 n] w fun r w' => r = .returned (.tuple #[]) ∧ ∃ v', Bld (ρ.t 72) (ρ.t 5) b (at0 b) v' [] w' ∧ Kept2 b (.slice none 0 0) v' w w' := by
  have L := B0.L
  have X := B0.X
  have mixed := L.mixed
  have t72 := L.t72; have a72 := L.a72; have z72 := L.z72; have v72 := L.v72; have u72 := run_underlying L.t72
  have t70 := L.t70; have a70 := L.a70; have z70 := L.z70; have v70 := L.v70; have u70 := run_underlying L.t70
  have t37 := L.t37; have a37 := L.a37; have z37 := L.z37; have v37 := L.v37; have u37 := run_underlying L.t37
  have t3 := L.t3; have a3 := L.a3; have z3 := L.z3; have v3 := L.v3; have u3 := run_underlying L.t3
  have t9 := L.t9; have a9 := L.a9; have z9 := L.z9; have v9 := L.v9; have u9 := run_underlying L.t9
  have t5 := X.t5; have a5 := X.a5; have z5 := X.z5; have v5 := X.v5; have u5 := run_underlying X.t5
  have e240 : ∀ args w, (callFunc (ρ.f 240) args).run P w = .ok (.enter (ρ.f 240) args) w := B0.e240
  have e241 : ∀ args w, (callFunc (ρ.f 241) args).run P w = .ok (.enter (ρ.f 241) args) w := enters_of L4.f241 (by kernel_rfl) rfl
  go_enter hf, Body.n165_ntmps ρ
  go_wp2_with (go_at_fn (ρ.f 240); refine (copyCheck_kept B0 h hp).mono ?_)
  rintro r w1 ⟨rfl, h1, k1⟩
  have hbk := h1.blk
  have c1 : w1.cell? ⟨b, 1, none⟩ = some (.slice none 0 0) := by rw [Lib.cell_of_heap hbk]; rfl
  have c1' : w1.drew.cell? ⟨b, 1, none⟩ = some (.slice none 0 0) := c1
  have hbk' : w1.drew.heap[b]? = some (.cells #[at0 b, .slice none 0 0] (ρ.t 72) (0, 0)) := hbk
  go_wp2
  go_region_o
  all_goals go_wp2_with (go_at_fn (ρ.f 241); refine (grow_kept L4 X hbk' hn).mono ?_; rintro e w' ⟨rfl, v', h2, k2⟩)
  all_goals first
    | (go_end0; exact ⟨rfl, v', h2, (k1.trans0 .drew0).trans0 k2⟩)
    | (go_end0; exact ⟨rfl, _, ⟨h1.blk, h1.own, h1.ne⟩, k1.trans0 .drew0⟩)
    | (go_end0; exact ⟨rfl, _, h1, k1⟩)
end
section
variable {P : Program} {ρ : Shelf.Ren} {Γ : Glob} {r : List UInt8}
def bGrow? (n : Int) : Option (List UInt8) := if 0 ≤ n ∧ n ≤ 140737488355328 then some [] else none
theorem bGrow_ok {n : Int} (B0 : BLays P ρ) (L4 : Lays.n241 P ρ) (hf : P.funcs[ρ.f 165]? = some (Body.n165 ρ)) (h : bGrow? n = some r) :
    ACalls P Γ (ρ.f 165) [.c (.ref 0 2 0 0), .c (.val (.int .i64 n))] (bldH (ρ.t 72) (ρ.t 5) true []) 2 (bPost (ρ.t 72) (ρ.t 5) (.tup []) r) := by
  unfold bGrow? at h
  split at h
  · rename_i hn
    cases h
    intro E w μ κ cargs H hsz hrel
    have e0 := relRef (hrel 0 _ rfl)
    have e1 := relI (hrel 1 _ rfl)
    obtain ⟨p, v, B, hp, hv1, hv0⟩ := bld_open (fun _ => rfl) H
    have hv : v = .slice none 0 0 := by
      obtain ⟨p', v', g0, g1, gc, g2, g3⟩ := H.blk 0 (.bld (ρ.t 72) true 1 0) rfl
      have : (some (Obj.cells #[p, v] (ρ.t 72) (0, 0))) = some (.cells #[p', v'] (ρ.t 72) (0, 0)) := B.blk.symm.trans g0
      simp at this
      rw [this.2]
      exact g2 rfl
    subst hv
    obtain ⟨m, rfl⟩ : ∃ m : Nat, n = m := ⟨n.toNat, by omega⟩
    rw [arr2 hsz, e0, e1]
    refine (Grow_kept B0 L4 hf B hp (n := m) (by omega)).mono ?_
    rintro re w' ⟨rfl, v', B', k⟩
    obtain ⟨z', μ', κ', g1, g2, g3⟩ := bld_after (r := []) H k hv1 hv0 (.inr rfl) B'
    exact ⟨_, _, _, _, μ', κ', rfl, ⟨z', g1, rfl, rfl, rfl⟩, g2, g3, .tup rfl fun i x hi => by simp at hi⟩
  · cases h
end
end Go.Proofs.YtcnfmehidmjejaaGreatDoorBv
