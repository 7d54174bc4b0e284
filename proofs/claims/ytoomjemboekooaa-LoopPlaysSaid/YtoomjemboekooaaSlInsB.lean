/- slices.Insert of one element at one instance of the program's, where there is no room: the worked proofs of slices.Insert, turned to elements of many cells. -/
import Derived.Test.YtoomjemboekooaaSlInsA
namespace Go.Proofs.YtoomjemboekooaaBv
open Go Go.Proofs Go.RowKit Go.Lib Go.Shelf
set_option linter.unusedVariables false
set_option linter.unusedSimpArgs false
set_option maxHeartbeats 4000000 in
set_option maxRecDepth 1000000 in
/-- at the end -/
theorem ins104_end_grow (i0 : TypeInfo) (hi0 : Try.prog.info? 84 = some i0) (hz1 : i0.size = 5) (hby : i0.bytes = 48) (zs : Array Value) (hz0 : i0.zero = some (.agg zs)) (base : Option Addr) (n c vb vc : Nat) (olds : List Value) (CV : Array Value) (TV : TypeId) (w : World)
    (hnc : n ≤ c) (hroom : c < n + 1) (hbig : (n + 1) * 48 ≤ 140737488355328) (hol : olds.length = n * 5) (hnil : base = none → n = 0) (hcs : ∀ a, base = some a → ∀ j v, olds[j]? = some v → w.cell? (a.add j) = some v)
    (hv : w.heap[vb]? = some (.cells CV TV (0, 0))) (hvs : 5 ≤ CV.size) (h1v : ∀ k, k < 5 → ∀ v, CV[k]? = some v → v.oneCell' = true) :
    Calls Try.prog 104 #[.slice base n c, .int .i64 n, .slice (some ⟨vb, 0, none⟩) 1 vc] w fun e w' =>
      e = .returned (.slice (some ⟨w.heap.size, 0, none⟩) (n + 1) (grownCap w (n + 1) c 84)) ∧
      w' = w.drew.alloc (.cells ((olds ++ CV.toList.take 5).toArray ++ Builtin.zeroCells zs (grownCap w (n + 1) c 84 - (n + 1))) 84) := by
  have mixed : Try.prog.follows .mixedOrders = true := by kernel_rfl
  have t24 := Try.underlying23
  have cellV : ∀ k, w.cell? ⟨vb, k, none⟩ = CV[k]? := fun k => by unfold World.cell?; simp only [hv]; rfl
  obtain ⟨vs, hvsd⟩ : ∃ vs, vs = CV.toList.take 5 := ⟨_, rfl⟩
  have hVl : CV.toList.length = CV.size := Array.length_toList
  have hvlen : vs.length = 1 * i0.size := by rw [hvsd, List.length_take, hVl, hz1]; omega
  have hvget : ∀ t u, vs[t]? = some u → CV[t]? = some u ∧ t < 5 := by
    intro t u hu
    have ht : t < 5 := by
      have := (List.getElem?_eq_some_iff.1 hu).1
      rw [hvlen, hz1] at this; omega
    rw [hvsd, List.getElem?_take, if_pos ht, Array.getElem?_toList] at hu
    exact ⟨hu, ht⟩
  have one2 : ∀ u ∈ vs, u.oneCell' = true := by
    intro u hu
    obtain ⟨t, ht, rfl⟩ := List.mem_iff_getElem.1 hu
    have := hvget t _ (List.getElem?_eq_getElem ht)
    exact h1v _ this.2 _ this.1
  have hsrc : Src Try.prog i0.size 23 (.slice (some ⟨vb, 0, none⟩) 1 vc) 1 vs w :=
    Src.ofSlice w t24 ⟨vb, 0, none⟩ 1 vc vs hvlen (fun j u hj => by rw [Addr.add_lit, Nat.zero_add]; exact (cellV _).trans (hvget j u hj).1) one2
  have hold : (Builtin.firstCells i0.size n (.slice base n c)).run Try.prog w.drew = .ok olds.toArray w.drew := by
    cases base with
    | none =>
      have h0 := hnil rfl
      subst h0
      rw [List.length_eq_zero_iff.1 (by omega : olds.length = 0)]
      exact run_firstCells_none w.drew i0.size 0 0 c
    | some a => exact run_firstCells_some w.drew i0.size n a n c olds (by rw [hol, hz1]) (fun j v hj => hcs a rfl j v hj)
  have hrun : ∀ ty, (Builtin.append_ #[23, 23] ty #[.slice base n c, .slice (some ⟨vb, 0, none⟩) 1 vc]).run Try.prog w = _ := fun ty =>
    run_append_grow_src w 23 23 ty 84 i0 _ t24 hi0 hz0 base n c olds hold _ 1 vs hsrc hroom (by omega) (by rw [hby]; exact growslice_fits hroom hbig)
  rw [← hvsd]
  clear hvget cellV hvsd hvlen hold hsrc
  go_enter Try.func104, Try.ntmps104
  cases base with
  | none =>
    have h0 := hnil rfl
    subst h0
    go_wp2_with (at_builtin; refine Lib.wpList_append_run _ rfl _ _ _ _ rfl _ _ rfl rfl _ _ (hrun _) ?_)
    go_ret
    exact ⟨rfl, rfl⟩
  | some a =>
    obtain ⟨ab, ao, asp⟩ := a
    go_wp2_with (at_builtin; refine Lib.wpList_append_run _ rfl _ _ _ _ rfl _ _ rfl rfl _ _ (hrun _) ?_)
    all_goals (go_ret; exact ⟨rfl, rfl⟩)
end Go.Proofs.YtoomjemboekooaaBv
