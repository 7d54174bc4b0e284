/- slices.Delete at one instance of the program's: the worked proof of slices.Delete, turned to elements of many cells. -/
import Derived.Test.YtoomjemboekooaaSlDel
import Derived.Test.YtoomjemboekooaaRows
import Derived.Shelf.RegionOpenPlain
import Derived.Deep.LoopGhost
namespace Go.Proofs.YtoomjemboekooaaBv
open Go Go.Proofs Go.RowKit Go.Lib Go.Shelf
set_option linter.unusedVariables false
set_option linter.unusedSimpArgs false
set_option maxHeartbeats 4000000 in
set_option maxRecDepth 1000000 in
theorem del69_walk (i0 : TypeInfo) (hi0 : Try.prog.info? 84 = some i0) (hz1 : i0.size = 5) (zs : Array Value) (hzv : ∀ w, (zeroValue 84).run Try.prog w = .ok (.agg zs) w) (hzs : zs.size = 5) (hzo : ∀ v ∈ zs, v.oneCell' = true)
    (blk n cap i j : Nat) (C : Array Value) (T : TypeId) (fr : Nat × Nat) (w : World) (hb : w.heap[blk]? = some (.cells C T fr)) (hfr : ∀ k, k < C.size → w.frozen? ⟨blk, k, none⟩ = false) (hcs : cap * 5 ≤ C.size) (hn : n ≤ cap) (hij : i < j) (hj : j ≤ n)
    (h1 : ∀ k, k < n * 5 → ∀ v, C[k]? = some v → v.oneCell' = true) :
    Calls Try.prog 69 #[.slice (some ⟨blk, 0, none⟩) n cap, .int .i64 i, .int .i64 j] w fun e w' => e = .returned (.slice (some ⟨blk, 0, none⟩) (i + (n - j)) cap) ∧
      ∃ vs, w' = (w.drew.setCells blk (i * 5) ((C.toList.drop (j * 5)).take ((n - j) * 5))).setCells blk ((i + (n - j)) * 5) vs := by
  have mixed : Try.prog.follows .mixedOrders = true := by kernel_rfl
  have t22 := Try.underlying23
  have cell : ∀ k, k < C.size → w.cell? ⟨blk, k, none⟩ = C[k]? := fun k hk => by
    unfold World.cell?
    simp only [hb]
    rfl
  obtain ⟨news, hnews⟩ : ∃ news, news = (C.toList.drop (j * 5)).take ((n - j) * 5) := ⟨_, rfl⟩
  have hjn : j * 5 + (n - j) * 5 = n * 5 := by omega
  have hnC : n * 5 ≤ C.size := by omega
  have hlen : news.length = (n - j) * 5 := by rw [hnews, List.length_take, List.length_drop, Array.length_toList]; omega
  have hget : ∀ t u, news[t]? = some u → C[j * 5 + t]? = some u ∧ t < (n - j) * 5 := by
    intro t u hu
    have ht : t < (n - j) * 5 := by rw [← hlen]; exact (List.getElem?_eq_some_iff.1 hu).1
    rw [hnews, List.getElem?_take, if_pos ht, List.getElem?_drop, Array.getElem?_toList] at hu
    exact ⟨hu, ht⟩
  obtain ⟨A, hA, hsrc⟩ : ∃ A : Addr, (if cap = j then some (⟨blk, 0, none⟩ : Addr) else some ⟨blk, 0 + j * 5, none⟩) = some A ∧ Hid (∀ t u, news[t]? = some u → w.drew.cell? (A.add t) = some u) := by
    by_cases h : cap = j
    · refine ⟨⟨blk, 0, none⟩, by simp [h], fun t u hu => ?_⟩
      have := (hget t u hu).2
      omega
    · refine ⟨⟨blk, 0 + j * 5, none⟩, by simp [h], fun t u hu => ?_⟩
      obtain ⟨h2, h3⟩ := hget t u hu
      rw [Addr.add_lit, Nat.zero_add]
      exact (cell _ (by omega)).trans h2
  have s1 : Hid (news.length = (n - j) * 5) := hlen
  have s2 : Hid (∀ u ∈ news, u.oneCell' = true) := by
    intro u hu
    obtain ⟨t, ht, rfl⟩ := List.mem_iff_getElem.1 hu
    have := hget t _ (List.getElem?_eq_getElem ht)
    exact h1 _ (by omega) _ this.1
  have s3 : Hid (∀ t, t < news.length → (w.drew.cell? ⟨blk, 0 + i * 5 + t, none⟩).isSome = true ∧ w.drew.frozen? ⟨blk, 0 + i * 5 + t, none⟩ = false) := by
    intro t ht
    rw [hlen] at ht
    have hk : 0 + i * 5 + t < C.size := by omega
    refine ⟨?_, hfr _ hk⟩
    show (w.cell? _).isSome = true
    rw [cell _ hk, Array.getElem?_eq_getElem hk]; rfl
  obtain ⟨W1, hW1⟩ : ∃ W1, W1 = w.drew.setCells blk (0 + i * 5) news := ⟨_, rfl⟩
  obtain ⟨C1, e1, e2, e3⟩ := setCells_row blk T fr news (0 + i * 5) w.drew C hb
  rw [← hW1] at e1
  have hfz1 : ∀ a, W1.frozen? a = w.frozen? a := fun a => by rw [hW1]; exact World.frozen?_setCells _ _ _ _ _
  have hcl : ∀ ty, (Builtin.clear_ #[23] ty #[.slice (some ⟨blk, (i + (n - j)) * 5, none⟩) (n - (i + (n - j))) (cap - (i + (n - j)))]).run Try.prog W1 = .ok (.tuple #[]) (W1.setCells blk ((i + (n - j)) * 5) (Builtin.zeroCells zs (n - (i + (n - j)))).toList) :=
    fun ty => run_clear_wide W1 _ _ ty _ t22 hzv hzo blk ((i + (n - j)) * 5) _ _ (by omega) (fun t ht => by
      replace ht : t < (n - (i + (n - j))) * zs.size := ht
      rw [hzs] at ht
      have hk : (i + (n - j)) * 5 + t < C1.size := by omega
      unfold World.cell?
      simp only [e1]
      show (C1[_]?).isSome = true
      rw [Array.getElem?_eq_getElem hk]; rfl) (fun t ht => by
      replace ht : t < (n - (i + (n - j))) * zs.size := ht
      rw [hzs] at ht
      rw [hfz1]; exact hfr _ (by omega))
  have hW : Hid (W1 = w.drew.setCells blk (0 + i * 5) news) := hW1
  have X : Aside (news = (C.toList.drop (j * 5)).take ((n - j) * 5)) := hnews
  have hic : i ≤ cap := by omega
  have hjc : j ≤ cap := by omega
  clear hW1 e1 e2 e3 hfz1 hget hnews hlen cell
  go_enter Try.func69, Try.ntmps69
  go_wp2_with fail
  go_region_law_o (refine step_append_room rfl (.tmp 22) (.tmp 25) 23 rfl 84 i0 5 t22 hi0 hz1 blk 0 i cap (by simp [Act.eval, Act.put]) A (n - j) (cap - j) news (by simp [Act.eval, Act.put]; simpa using hA) s1.out hsrc.out s2.out (by omega) s3.out ?_; rw [← hW.out])
  go_wp2
  all_goals (go_ret; exact ⟨rfl, _, by rw [← X.out, ← Nat.zero_add (i * 5), ← hW.out]⟩)
end Go.Proofs.YtoomjemboekooaaBv
