/- slices.Insert of one element at one instance of the program's, where there is no room: the worked proofs of slices.Insert, turned to elements of many cells. -/
import Derived.Test.YtoomjemboekooaaSlInsA
namespace Go.Proofs.YtoomjemboekooaaBv
open Go Go.Proofs Go.RowKit Go.Lib Go.Shelf
set_option linter.unusedVariables false
set_option linter.unusedSimpArgs false
set_option maxHeartbeats 4000000 in
set_option maxRecDepth 1000000 in
/-- ahead of the end -/
theorem ins104_grow (i0 : TypeInfo) (hi0 : Try.prog.info? 84 = some i0) (hz1 : i0.size = 5) (hby : i0.bytes = 48) (zs : Array Value) (hz0 : i0.zero = some (.agg zs)) (hzs : zs.size = 5) (b n c i vb vc : Nat) (C CV : Array Value) (T TV : TypeId) (fr : Nat × Nat) (w : World) (hb : w.heap[b]? = some (.cells C T fr)) (hcs : c * 5 ≤ C.size)
    (hi : i < n) (hnc : n ≤ c) (hroom : c < n + 1) (hbig : (n + 1) * 48 ≤ 140737488355328) (hv : w.heap[vb]? = some (.cells CV TV (0, 0))) (hvs : 5 ≤ CV.size)
    (h1c : ∀ k, k < n * 5 → ∀ v, C[k]? = some v → v.oneCell' = true) (h1v : ∀ k, k < 5 → ∀ v, CV[k]? = some v → v.oneCell' = true) :
    Calls Try.prog 104 #[.slice (some ⟨b, 0, none⟩) n c, .int .i64 i, .slice (some ⟨vb, 0, none⟩) 1 vc] w fun e w' =>
      e = .returned (.slice (some ⟨w.heap.size, 0, none⟩) (n + 1) (grownCap w (n + 1) c 84)) ∧
      w' = (((w.alloc (.cells ((C.toList.take (i * 5)).toArray ++ Builtin.zeroCells zs (n + 1 - i) ++ Builtin.zeroCells zs (grownCap w (n + 1) c 84 - (n + 1))) 84)).drew.setCells w.heap.size (i * 5) (CV.toList.take 5)).drew).setCells w.heap.size ((i + 1) * 5) ((C.toList.drop (i * 5)).take ((n - i) * 5)) := by
  have mixed : Try.prog.follows .mixedOrders = true := by kernel_rfl
  have t24 := Try.underlying23
  have t3 := Try.underlying3
  have hsz : (Try.prog.info? 84).map (·.size) = some 5 := by rw [hi0]; simp [hz1]
  have cellC : ∀ k, w.cell? ⟨b, k, none⟩ = C[k]? := fun k => by unfold World.cell?; simp only [hb]; rfl
  have cellV : ∀ k, w.cell? ⟨vb, k, none⟩ = CV[k]? := fun k => by unfold World.cell?; simp only [hv]; rfl
  have hbw : b < w.heap.size := (Array.getElem?_eq_some_iff.1 hb).1
  have hvw : vb < w.heap.size := (Array.getElem?_eq_some_iff.1 hv).1
  obtain ⟨news, hnews⟩ : ∃ news, news = (C.toList.drop (i * 5)).take ((n - i) * 5) := ⟨_, rfl⟩
  obtain ⟨vs, hvsd⟩ : ∃ vs, vs = CV.toList.take 5 := ⟨_, rfl⟩
  have hnC : n * 5 ≤ C.size := by omega
  have hCl : C.toList.length = C.size := Array.length_toList
  have hVl : CV.toList.length = CV.size := Array.length_toList
  have hlen : news.length = (n - i) * 5 := by rw [hnews, List.length_take, List.length_drop, hCl]; omega
  have hvlen : vs.length = 5 := by rw [hvsd, List.length_take, hVl]; omega
  have hget : ∀ t u, news[t]? = some u → C[i * 5 + t]? = some u ∧ t < (n - i) * 5 := by
    intro t u hu
    have ht : t < (n - i) * 5 := by rw [← hlen]; exact (List.getElem?_eq_some_iff.1 hu).1
    rw [hnews, List.getElem?_take, if_pos ht, List.getElem?_drop, Array.getElem?_toList] at hu
    exact ⟨hu, ht⟩
  have hvget : ∀ t u, vs[t]? = some u → CV[t]? = some u ∧ t < 5 := by
    intro t u hu
    have ht : t < 5 := by rw [← hvlen]; exact (List.getElem?_eq_some_iff.1 hu).1
    rw [hvsd, List.getElem?_take, if_pos ht, Array.getElem?_toList] at hu
    exact ⟨hu, ht⟩
  have one1 : ∀ u ∈ news, u.oneCell' = true := by
    intro u hu
    obtain ⟨t, ht, rfl⟩ := List.mem_iff_getElem.1 hu
    have := hget t _ (List.getElem?_eq_getElem ht)
    exact h1c _ (by omega) _ this.1
  have one2 : ∀ u ∈ vs, u.oneCell' = true := by
    intro u hu
    obtain ⟨t, ht, rfl⟩ := List.mem_iff_getElem.1 hu
    have := hvget t _ (List.getElem?_eq_getElem ht)
    exact h1v _ this.2 _ this.1
  have hkk : (n : Int) + 1 - (i : Int) = ((n + 1 - i : Nat) : Int) := by omega
  have hik : i + (n + 1 - i) = n + 1 := by omega
  have hold : (Builtin.firstCells i0.size i (.slice (some ⟨b, 0, none⟩) i c)).run Try.prog w.drew = .ok (C.toList.take (i * 5)).toArray w.drew :=
    run_firstCells_some w.drew i0.size i ⟨b, 0, none⟩ i c (C.toList.take (i * 5)) (by rw [List.length_take, hCl, hz1]; omega) (fun j v hj => by
      rw [Addr.add_lit, Nat.zero_add]
      rw [List.getElem?_take] at hj
      split at hj
      · rw [Array.getElem?_toList] at hj; exact (cellC _).trans hj
      · cases hj)
  have hrz : ∀ ty, (Builtin.append_ #[23, 3] ty #[.slice (some ⟨b, 0, none⟩) i c, .int .i64 ((n : Int) + 1 - (i : Int))]).run Try.prog w =
      .ok (.slice (some ⟨w.heap.size, 0, none⟩) (n + 1) (grownCap w (n + 1) c 84)) (w.drew.alloc (.cells ((C.toList.take (i * 5)).toArray ++ Builtin.zeroCells zs (n + 1 - i) ++ Builtin.zeroCells zs (grownCap w (n + 1) c 84 - (n + 1))) 84)) := fun ty => by
    have h := Lib.run_append_grow_zeros w 23 3 ty 84 i0 _ .i64 .i64 t24 t3 hi0 hz0 (some ⟨b, 0, none⟩) i c (C.toList.take (i * 5)) hold (n + 1 - i) (by omega) (by omega) (by omega) (by omega) (by rw [hby]; omega) (by rw [hby, hik]; exact growslice_fits hroom hbig)
    rw [hik] at h
    rw [hkk]
    exact h
  have hGn : n + 1 ≤ grownCap w (n + 1) c 84 := grownCap_ge w _ _ _
  have hG63 := grownCap_le_maxLen w (n + 1) c 84 (by unfold maxLen; omega)
  obtain ⟨G, hG⟩ : ∃ G, G = grownCap w (n + 1) c 84 := ⟨_, rfl⟩
  obtain ⟨ROW, hROW⟩ : ∃ ROW : Array Value, ROW = (C.toList.take (i * 5)).toArray ++ Builtin.zeroCells zs (n + 1 - i) ++ Builtin.zeroCells zs (G - (n + 1)) := ⟨_, rfl⟩
  rw [← hG] at hrz hGn hG63 ⊢
  rw [← hROW] at hrz ⊢
  rw [← hnews, ← hvsd]
  unfold maxLen at hG63
  have hRl : (n + 1) * 5 ≤ ROW.size := by
    rw [hROW, Array.size_append, Array.size_append, size_zeroCells, size_zeroCells, hzs, List.size_toArray, List.length_take, hCl]
    omega
  obtain ⟨W1, hW1⟩ : ∃ W1, W1 = w.drew.alloc (.cells ROW 84) := ⟨_, rfl⟩
  rw [← hW1] at hrz
  have hN : ∀ j, j < (n + 1) * 5 → (W1.cell? ⟨w.heap.size, j, none⟩).isSome = true := fun j hj => by
    rw [hW1, World.cell?_alloc_at (w := w.drew) ROW _ w.heap.size j rfl, Array.getElem?_eq_getElem (by omega)]; rfl
  have hNf : ∀ j, W1.frozen? ⟨w.heap.size, j, none⟩ = false := fun j => by rw [hW1]; exact World.frozen?_alloc_at (w := w.drew) ROW _ w.heap.size j rfl
  have hOb : ∀ j v, w.cell? ⟨b, j, none⟩ = some v → W1.cell? ⟨b, j, none⟩ = some v := fun j v h => by rw [hW1, World.cell?_alloc_past (w := w.drew) _ b j hbw]; exact h
  have hOv : ∀ j v, w.cell? ⟨vb, j, none⟩ = some v → W1.cell? ⟨vb, j, none⟩ = some v := fun j v h => by rw [hW1, World.cell?_alloc_past (w := w.drew) _ vb j hvw]; exact h
  have hmin : Nat.min 1 (n + 1 - i) = 1 := by simp only [Nat.min_def]; split <;> omega
  have hcpA : ∀ (W : World), (∀ x, W.cell? x = W1.cell? x) → (∀ x, W.frozen? x = W1.frozen? x) → ∀ ty dc, (Builtin.copy_ #[23, 23] ty #[.slice (some ⟨w.heap.size, i * 5, none⟩) (n + 1 - i) dc, .slice (some ⟨vb, 0, none⟩) 1 vc]).run Try.prog W = .ok (goInt (Nat.min 1 (n + 1 - i))) (W.setCells w.heap.size (i * 5) vs) := fun W hWc hWf ty dc =>
    run_copy_wide W _ _ ty 84 5 w.heap.size (i * 5) (n + 1 - i) dc ⟨vb, 0, none⟩ 1 vc vs t24 hsz (by rw [hvlen, hmin, Nat.one_mul])
      (fun j v hj => by rw [Addr.add_lit, Nat.zero_add, hWc]; exact hOv _ v ((cellV _).trans (hvget j v hj).1))
      (fun j hj => by rw [hWc]; exact hN _ (by omega)) (fun j hj => by rw [hWf]; exact hNf _) one2
  have hGi : ¬ (G = i) := by omega
  have hGim : ¬ (G = i + 1) := by omega
  have hci : ¬ (c = i) := by omega
  have hbN : b ≠ w.heap.size := by omega
  have hcpB : ∀ (W : World), (∀ x, W.cell? x = (W1.setCells w.heap.size (i * 5) vs).cell? x) → (∀ x, W.frozen? x = (W1.setCells w.heap.size (i * 5) vs).frozen? x) → ∀ ty dc sc, (Builtin.copy_ #[23, 23] ty #[.slice (some ⟨w.heap.size, (i + 1) * 5, none⟩) (n - i) dc, .slice (some ⟨b, i * 5, none⟩) (n - i) sc]).run Try.prog W = .ok (goInt (Nat.min (n - i) (n - i))) (W.setCells w.heap.size ((i + 1) * 5) news) := fun W hWc hWf ty dc sc =>
    run_copy_wide W _ _ ty 84 5 w.heap.size ((i + 1) * 5) (n - i) dc ⟨b, i * 5, none⟩ (n - i) sc news t24 hsz (by rw [hlen]; congr 1; simp only [Nat.min_def]; split <;> omega)
      (fun j v hj => by
        rw [Addr.add_lit, hWc, World.cell?_setCells_out _ _ _ _ _ (fun h _ => absurd h hbN)]
        exact hOb _ v ((cellC _).trans (hget j v hj).1))
      (fun j hj => by rw [hWc]; exact isSome_setCells _ _ _ _ (fun t ht => hN _ (by omega)) _ (hN _ (by omega)))
      (fun j hj => by rw [hWf, World.frozen?_setCells]; exact hNf _) one1
  subst hW1
  have hE1 : ∀ x, ((w.alloc (.cells ROW 84)).drew).cell? x = (w.drew.alloc (.cells ROW 84)).cell? x := fun x => rfl
  have hE2 : ∀ x, ((w.alloc (.cells ROW 84)).drew).frozen? x = (w.drew.alloc (.cells ROW 84)).frozen? x := fun x => rfl
  have hF1 : ∀ x, (((w.alloc (.cells ROW 84)).drew.setCells w.heap.size (i * 5) vs).drew).cell? x = ((w.drew.alloc (.cells ROW 84)).setCells w.heap.size (i * 5) vs).cell? x := fun x => rfl
  have hF2 : ∀ x, (((w.alloc (.cells ROW 84)).drew.setCells w.heap.size (i * 5) vs).drew).frozen? x = ((w.drew.alloc (.cells ROW 84)).setCells w.heap.size (i * 5) vs).frozen? x := fun x => rfl
  have hz2 : ¬ ((i : Int) = (n : Int)) := by omega
  have hz3 : (c : Int) < (n : Int) + 1 := by omega
  have hw1 : IntKind.i64.wrap ((i : Int) + 1) = (i : Int) + 1 := by rw [IntKind.wrap_i64]; omega
  have hb1 : (0 : Int) ≤ (i : Int) + 1 := by omega
  have hin : i ≤ n := by omega
  have htn : ((i : Int) + 1).toNat = i + 1 := by omega
  have hb3 : (i : Int) ≤ (n : Int) := by omega
  clear hkk hik hold hROW hG hRl hmin hget hvget cellC cellV hnews hvsd
  go_enter Try.func104, Try.ntmps104
  go_wp2_with (first
    | (at_builtin; refine Lib.wpList_append_run _ rfl _ _ _ _ rfl _ _ rfl rfl _ _ (hrz _) ?_)
    | (at_builtin; refine wpList_copy_runI _ rfl _ _ 23 23 rfl _ _ rfl rfl (hcpA _ hE1 hE2 _ _) ?_)
    | (at_builtin; refine wpList_copy_runI _ rfl _ _ 23 23 rfl _ _ rfl rfl (hcpB _ (fun _ => rfl) (fun _ => rfl) _ _ _) ?_))
  go_region_law_o (refine step_copy_runI rfl _ _ 23 23 rfl (.slice (some ⟨w.heap.size, (i + 1) * 5, none⟩) (n - i) (G - (i + 1))) (.slice (some ⟨b, i * 5, none⟩) (n - i) (c - i)) (by simp [Act.eval, Act.put]) (by simp [Act.eval, Act.put]) (hcpB _ hF1 hF2 3 (G - (i + 1)) (c - i)) ?_)
  go_wp2
  go_ret
  exact ⟨rfl, rfl⟩
end Go.Proofs.YtoomjemboekooaaBv
