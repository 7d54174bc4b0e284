/- The calculus: slices.Grow of a nil slice, by the shelf's contract: a list of the call's own without elements. It proves nothing of any program. -/
import Derived.Test.YtolmbcngghkfiaaDoorBv30
import Derived.Test.YtolmbcngghkfiaaDoorBv27
import Derived.Shelf.Spec.SlicesGrow
namespace Go.Proofs.YtolmbcngghkfiaaDoorBv
open Go Go.RowKit Go.Proofs
set_option linter.unusedVariables false
set_option linter.unusedSimpArgs false
def grow? (α : Type) (bytes : Nat) (n : Int) : Option (List α) := if 0 ≤ n ∧ n.toNat * bytes ≤ 140737488355328 ∧ n ≤ 4611686018427387904 then some [] else none
theorem grow_some {α : Type} {bytes : Nat} {n : Int} (h0 : 0 ≤ n) (h1 : n.toNat * bytes ≤ 140737488355328) (h2 : n ≤ 4611686018427387904) : grow? α bytes n = some [] := if_pos ⟨h0, h1, h2⟩
theorem relNil {K : Ctx} {sz : Nat} {v : Value} (h : RelV K (.c (.ro true sz [])) v) : v = .slice none 0 0 := by
  cases h with
  | c h =>
    cases h with
    | ro f hn hc hz hl hs hcell hrel =>
      have := hn rfl
      subst this
      rw [hz rfl]
      rfl
theorem grow_ok {P : Program} {ρ : Shelf.Ren} {Γ : Glob} {α : Type} {f : α → List Cel} {i0 : TypeInfo} {z : Value} {sz bytes : Nat} (L : Lays8.n4 P ρ) (hi0 : P.info? (ρ.t 25) = some i0) (hz0 : i0.zero = some z) (hs0 : i0.size = sz) (hb0 : i0.bytes = bytes) (hsp : 0 < sz) (hzc : z.cells.size = sz) {n : Int} {r : List α} (h : grow? α bytes n = some r) :
    ACalls P Γ (ρ.f 4) [.c (.ro true sz []), .c (.val (.int .i64 n))] (fun _ => none) 0 (fun v h' n' => ∃ z : Bool, (z = true → r = []) ∧ v = lstV z 0 sz r.length ∧ (h' = (upd (fun _ => none) 0 (lstB z sz (r.map f)))) ∧ n' = 1) := by
  unfold grow? at h
  split at h
  · rename_i hn
    cases h
    intro E w μ κ cargs H hsz hrel
    have e0 := relNil (hrel 0 _ rfl)
    have e1 := relI (hrel 1 _ rfl)
    obtain ⟨m, rfl⟩ : ∃ m : Nat, n = m := ⟨n.toNat, by omega⟩
    have hm : (m : Int).toNat = m := by omega
    rw [arr2 hsz, e0, e1]
    by_cases h0 : m = 0
    · subst h0
      refine (Any8.slices_Grow_room L none 0 0 0 w (Nat.le_refl _) (by omega) (by omega) (by omega)).mono ?_
      rintro e w' ⟨rfl, rfl⟩
      have eh : upd (fun _ => none) 0 (lstB true sz (([] : List α).map f)) = (fun _ => none : Heap) := by
        funext b
        unfold upd
        cases b.beq 0 <;> rfl
      have L1 : Ctx.Le (ctx E w' μ κ (fun _ => none) 0) (ctx E w' μ κ (fun _ => none) 1) := ⟨Nat.zero_le _, fun _ _ => rfl, fun _ _ => rfl, fun k hk => ⟨hk.1, hk.2.1, hk.2.2⟩, fun k hk => rfl⟩
      refine ⟨_, _, _, _, μ, κ, rfl, ⟨true, fun _ => rfl, rfl, rfl, rfl⟩, ?_, ?_, ?_⟩
      · rw [eh]
        exact ⟨H.lt, fun b x h => (by cases h), fun b b' x x' h => (by cases h), fun b x h => (by cases h), fun b x h => (by cases h), fun g => (H.glob g).mono L1⟩
      · rw [eh]
        exact ⟨L1, Nat.le_refl _, rfl, rfl, rfl, fun k _ hk => rfl⟩
      · exact .c (.ro (fun _ _ => undef) (fun _ => rfl) (Nat.le_refl _) (fun _ => rfl) (fun i e h => by cases h) (fun ad h => by cases h) (fun i e h => by cases h) (fun i e h => by cases h))
    · refine (Any8.slices_Grow_grow L i0 z hi0 hz0 (by omega) none 0 0 m [] w (Nat.le_refl _) (by omega) (by rw [hb0, Nat.zero_add]; have := hn.2.1; rw [hm] at this; exact this) (by omega) (by simp) (fun _ => rfl) (fun a ha => by cases ha)).mono ?_
      rintro e w' ⟨rfl, rfl⟩
      have hw : w.heap.size ≤ w.drew.heap.size := Nat.le_refl _
      obtain ⟨H1, F1⟩ := grown_ok (w' := w.drew) H (Nat.le_refl _) (fun k hk => rfl) rfl rfl rfl
      have hG : 0 + m ≤ grownCap w (0 + m) 0 (ρ.t 25) := grownCap_ge w _ _ _
      have hGm := grownCap_le_maxLen w (0 + m) 0 (ρ.t 25) (by unfold maxLen; omega)
      generalize grownCap w (0 + m) 0 (ρ.t 25) = G at hG hGm ⊢
      generalize hC : (([] : List Value).toArray ++ Builtin.zeroCells z.cells (0 + m - 0) ++ Builtin.zeroCells z.cells (G - (0 + m))) = C
      have hCs : G * sz ≤ C.size := by
        rw [← hC]
        have e0 : (([] : List Value).toArray).size = 0 := rfl
        rw [Array.size_append, Array.size_append, size_zeroCells, size_zeroCells, hzc, e0, Nat.zero_add, ← Nat.add_mul]
        exact Nat.mul_le_mul_right _ (by omega)
      refine ⟨_, _, _, _, upd μ 0 w.heap.size, upd κ 0 G, rfl, ⟨false, (fun h => by cases h), rfl, rfl, rfl⟩, H1.alloc _ (.cells sz []) G ?_, F1.trans (alloc_le H1 _ (.cells sz []) G), ?_⟩
      · refine ⟨C, ρ.t 25, (0, 0), ?_, Fz.plain _ _ _ (by show upd κ 0 G 0 ≤ maxLen; rw [upd_same]; exact hGm), Nat.zero_le _, ?_, fun i e he => by cases he⟩
        · show (w.drew.alloc (.cells C (ρ.t 25))).heap[upd μ 0 w.drew.heap.size 0]? = _
          rw [upd_same, alloc_heap, if_pos rfl]
        · show upd κ 0 G 0 * sz ≤ C.size
          rw [upd_same]; exact hCs
      · have r := RelC.own (K := ctx E (w.drew.alloc (.cells C (ρ.t 25))) (upd μ 0 w.heap.size) (upd κ 0 G) (upd (fun _ => none) 0 (lstB false sz (([] : List α).map f))) 1) (b := 0) (sz := sz) (off := 0) (len := 0) (m := 0) (cap := G) (o := 0) (Nat.lt_succ_self 0) (Nat.le_refl _) (Nat.zero_le _) (.inl (by simp)) (by show 0 + G ≤ upd κ 0 G 0; rw [upd_same]; omega)
        have e : (ctx E (w.drew.alloc (.cells C (ρ.t 25))) (upd μ 0 w.heap.size) (upd κ 0 G) (upd (fun _ => none) 0 (lstB false sz (([] : List α).map f))) 1).μ 0 = w.heap.size := upd_same μ 0 w.heap.size
        rw [e] at r
        exact .c r
  · cases h
end Go.Proofs.YtolmbcngghkfiaaDoorBv
