/- slices.Insert of one element at one instance of the program's, where there is room: the worked proof of slices.Insert, turned to elements of many cells. -/
import Derived.Test.YtoomjemboekooaaSlIns
import Derived.Test.YtoomjemboekooaaRows
import Derived.Shelf.RegionOpenPlain
import Derived.Deep.LoopGhost
namespace Go.Proofs.YtoomjemboekooaaBv
open Go Go.Proofs Go.RowKit Go.Lib Go.Shelf
set_option linter.unusedVariables false
set_option linter.unusedSimpArgs false
set_option maxHeartbeats 4000000 in
set_option maxRecDepth 1000000 in
theorem ins104_shift (i0 : TypeInfo) (hi0 : Try.prog.info? 84 = some i0) (hz1 : i0.size = 5) (b n c i vb vc : Nat) (C CV : Array Value) (T TV : TypeId) (fr : Nat × Nat) (w : World) (hb : w.heap[b]? = some (.cells C T fr)) (hfr : ∀ k, k < C.size → w.frozen? ⟨b, k, none⟩ = false) (hcs : c * 5 ≤ C.size)
    (hi : i < n) (hroom : n + 1 ≤ c) (hc63 : c ≤ 9223372036854775807) (hv : w.heap[vb]? = some (.cells CV TV (0, 0))) (hvs : 5 ≤ CV.size) (hvb : vb ≠ b)
    (h1c : ∀ k, k < n * 5 → ∀ v, C[k]? = some v → v.oneCell' = true) (h1v : ∀ k, k < 5 → ∀ v, CV[k]? = some v → v.oneCell' = true) :
    Calls Try.prog 104 #[.slice (some ⟨b, 0, none⟩) n c, .int .i64 i, .slice (some ⟨vb, 0, none⟩) 1 vc] w fun e w' =>
      e = .returned (.slice (some ⟨b, 0, none⟩) (n + 1) c) ∧ w' = (w.drew.setCells b ((i + 1) * 5) ((C.toList.drop (i * 5)).take ((n - i) * 5))).setCells b (i * 5) (CV.toList.take 5) := by
  have mixed : Try.prog.follows .mixedOrders = true := by kernel_rfl
  have t24 := Try.underlying23
  have hsz : (Try.prog.info? 84).map (·.size) = some 5 := by rw [hi0]; simp [hz1]
  have cellC : ∀ k, w.cell? ⟨b, k, none⟩ = C[k]? := fun k => by unfold World.cell?; simp only [hb]; rfl
  have cellV : ∀ k, w.cell? ⟨vb, k, none⟩ = CV[k]? := fun k => by unfold World.cell?; simp only [hv]; rfl
  have hov : ∀ lb cb, (callFunc 111 #[.slice (some ⟨vb, 0, none⟩) 1 vc, .slice (some ⟨b, (i + 1) * 5, none⟩) lb cb]).run Try.prog w = .ok (.value (.bool false)) w := fun lb cb => by
    rw [run_callFunc_extern Try.func111 (by kernel_rfl) (by kernel_rfl) (by kernel_rfl) (e := Extern.SlicesOverlaps.overlaps #[23, 23] #[4]) (by kernel_rfl),
      Lib.run_overlaps_apart w 23 4 84 t24 5 Try.sizeOf84 ⟨vb, 0, none⟩ ⟨b, (i + 1) * 5, none⟩ 1 vc lb cb hvb TV T CV.size C.size (by unfold World.shape?; simp only [hv]) (by unfold World.shape?; simp only [hb]) (by omega)
        (by unfold World.frozen?; simp only [hv]; simp) (by unfold World.frozen?; simp only [hv]; simp)]
    rfl
  obtain ⟨news, hnews⟩ : ∃ news, news = (C.toList.drop (i * 5)).take ((n - i) * 5) := ⟨_, rfl⟩
  obtain ⟨vs, hvsd⟩ : ∃ vs, vs = CV.toList.take 5 := ⟨_, rfl⟩
  have hnC : n * 5 ≤ C.size := by omega
  have hCl : C.toList.length = C.size := Array.length_toList
  have hVl : CV.toList.length = CV.size := Array.length_toList
  have hlen : news.length = (n - i) * 5 := by rw [hnews, List.length_take, List.length_drop, hCl]; omega
  have hvlen : vs.length = 5 := by rw [hvsd, List.length_take, hVl]; omega
  have hget : ∀ t u, news[t]? = some u → C[i * 5 + t]? = some u ∧ t < (n - i) * 5 := by
    intro t u hu
    have ht : t < (n - i) * 5 := by rw [← hlen]; exact (List.getElem?_eq_some_iff.1 hu).1
    rw [hnews, List.getElem?_take, if_pos ht, List.getElem?_drop, Array.getElem?_toList] at hu
    exact ⟨hu, ht⟩
  have hvget : ∀ t u, vs[t]? = some u → CV[t]? = some u ∧ t < 5 := by
    intro t u hu
    have ht : t < 5 := by rw [← hvlen]; exact (List.getElem?_eq_some_iff.1 hu).1
    rw [hvsd, List.getElem?_take, if_pos ht, Array.getElem?_toList] at hu
    exact ⟨hu, ht⟩
  have one1 : ∀ u ∈ news, u.oneCell' = true := by
    intro u hu
    obtain ⟨t, ht, rfl⟩ := List.mem_iff_getElem.1 hu
    have := hget t _ (List.getElem?_eq_getElem ht)
    exact h1c _ (by omega) _ this.1
  have one2 : ∀ u ∈ vs, u.oneCell' = true := by
    intro u hu
    obtain ⟨t, ht, rfl⟩ := List.mem_iff_getElem.1 hu
    have := hvget t _ (List.getElem?_eq_getElem ht)
    exact h1v _ this.2 _ this.1
  have some1 : ∀ k, k < C.size → (w.cell? ⟨b, k, none⟩).isSome = true := fun k hk => by rw [cellC, Array.getElem?_eq_getElem hk]; rfl
  have hw1 : IntKind.i64.wrap ((i : Int) + 1) = (i : Int) + 1 := by rw [IntKind.wrap_i64]; omega
  have hb1 : (0 : Int) ≤ (i : Int) + 1 := by omega
  have htn : ((i : Int) + 1).toNat = i + 1 := by omega
  have hb2 : ¬ (c = i + 1) := by omega
  have hb3 : (i : Int) ≤ (n : Int) + 1 := by omega
  have hb4 : ¬ (c = i) := by omega
  have hz2 : ¬ ((i : Int) = (n : Int)) := by omega
  have hin : i ≤ n := by omega
  have hmin : Nat.min 1 (n + 1 - i) = 1 := by simp only [Nat.min_def]; split <;> omega
  have hcp1 : ∀ ty dc sc, (Builtin.copy_ #[23, 23] ty #[.slice (some ⟨b, (i + 1) * 5, none⟩) (n - i) dc, .slice (some ⟨b, i * 5, none⟩) (n + 1 - i) sc]).run Try.prog w.drew = .ok (goInt (Nat.min (n + 1 - i) (n - i))) (w.drew.setCells b ((i + 1) * 5) news) := fun ty dc sc =>
    run_copy_wide w.drew _ _ ty 84 5 b ((i + 1) * 5) (n - i) dc ⟨b, i * 5, none⟩ (n + 1 - i) sc news t24 hsz (by rw [hlen]; congr 1; simp only [Nat.min_def]; split <;> omega)
      (fun j v hj => by rw [Addr.add_lit]; obtain ⟨h2, h3⟩ := hget j v hj; exact (cellC _).trans h2)
      (fun j hj => some1 _ (by omega)) (fun j hj => hfr _ (by omega)) one1
  obtain ⟨W1, hW1⟩ : ∃ W1, W1 = w.drew.setCells b ((i + 1) * 5) news := ⟨_, rfl⟩
  obtain ⟨C1, e1, e2, e3⟩ := setCells_row b T fr news ((i + 1) * 5) w.drew C hb
  rw [← hW1] at e1
  have hcp2 : ∀ (W : World), (∀ x, W.cell? x = W1.cell? x) → (∀ x, W.frozen? x = W1.frozen? x) → ∀ ty dc, (Builtin.copy_ #[23, 23] ty #[.slice (some ⟨b, i * 5, none⟩) (n + 1 - i) dc, .slice (some ⟨vb, 0, none⟩) 1 vc]).run Try.prog W = .ok (goInt (Nat.min 1 (n + 1 - i))) (W.setCells b (i * 5) vs) := fun W hWc hWf ty dc =>
    run_copy_wide W _ _ ty 84 5 b (i * 5) (n + 1 - i) dc ⟨vb, 0, none⟩ 1 vc vs t24 hsz (by rw [hvlen, hmin, Nat.one_mul])
      (fun j v hj => by
        rw [Addr.add_lit, Nat.zero_add, hWc, hW1, World.cell?_setCells_out b _ _ _ _ (fun h _ => absurd h hvb)]
        exact (cellV _).trans (hvget j v hj).1)
      (fun j hj => by
        have hk : i * 5 + j < C1.size := by omega
        rw [hWc]; unfold World.cell?; simp only [e1]
        show (C1[_]?).isSome = true
        rw [Array.getElem?_eq_getElem hk]; rfl)
      (fun j hj => by rw [hWf, hW1, World.frozen?_setCells]; exact hfr _ (by omega)) one2
  rw [← hW1] at hcp1
  rw [← hnews, ← hvsd, ← hW1]
  clear e1 e2 e3 hmin hget hvget some1 cellC cellV hnews hvsd hlen hvlen
  go_enter Try.func104, Try.ntmps104
  go_wp2_with (simp only [hov])
  go_region_law_o (refine step_copy_runI rfl _ _ 23 23 rfl _ _ (by simp [Act.eval, Act.put]) (by simp [Act.eval, Act.put]) (hcp1 _ _ _) ?_)
  go_wp2_with (at_builtin; refine wpList_copy_runI _ rfl _ _ 23 23 rfl _ _ rfl rfl (hcp2 _ (fun _ => rfl) (fun _ => rfl) _ _) ?_)
  go_ret
  first | exact ⟨rfl, rfl⟩ | exact ⟨rfl, by rw [hW1]⟩
set_option maxHeartbeats 4000000 in
set_option maxRecDepth 1000000 in
/-- at the end, where there is room -/
theorem ins104_end_room (i0 : TypeInfo) (hi0 : Try.prog.info? 84 = some i0) (hz1 : i0.size = 5) (b n c vb vc : Nat) (C CV : Array Value) (T TV : TypeId) (fr : Nat × Nat) (w : World) (hb : w.heap[b]? = some (.cells C T fr)) (hfr : ∀ k, k < C.size → w.frozen? ⟨b, k, none⟩ = false) (hcs : c * 5 ≤ C.size)
    (hroom : n + 1 ≤ c) (hc63 : c ≤ 9223372036854775807) (hv : w.heap[vb]? = some (.cells CV TV (0, 0))) (hvs : 5 ≤ CV.size) (h1v : ∀ k, k < 5 → ∀ v, CV[k]? = some v → v.oneCell' = true) :
    Calls Try.prog 104 #[.slice (some ⟨b, 0, none⟩) n c, .int .i64 n, .slice (some ⟨vb, 0, none⟩) 1 vc] w fun e w' =>
      e = .returned (.slice (some ⟨b, 0, none⟩) (n + 1) c) ∧ w' = w.setCells b (n * 5) (CV.toList.take 5) := by
  have mixed : Try.prog.follows .mixedOrders = true := by kernel_rfl
  have t24 := Try.underlying23
  have cellC : ∀ k, w.cell? ⟨b, k, none⟩ = C[k]? := fun k => by unfold World.cell?; simp only [hb]; rfl
  have cellV : ∀ k, w.cell? ⟨vb, k, none⟩ = CV[k]? := fun k => by unfold World.cell?; simp only [hv]; rfl
  obtain ⟨vs, hvsd⟩ : ∃ vs, vs = CV.toList.take 5 := ⟨_, rfl⟩
  have hVl : CV.toList.length = CV.size := Array.length_toList
  have hvlen : vs.length = 1 * i0.size := by rw [hvsd, List.length_take, hVl, hz1]; omega
  have hvget : ∀ t u, vs[t]? = some u → CV[t]? = some u ∧ t < 5 := by
    intro t u hu
    have ht : t < 5 := by
      have := (List.getElem?_eq_some_iff.1 hu).1
      rw [hvlen, hz1] at this; omega
    rw [hvsd, List.getElem?_take, if_pos ht, Array.getElem?_toList] at hu
    exact ⟨hu, ht⟩
  have one2 : ∀ u ∈ vs, u.oneCell' = true := by
    intro u hu
    obtain ⟨t, ht, rfl⟩ := List.mem_iff_getElem.1 hu
    have := hvget t _ (List.getElem?_eq_getElem ht)
    exact h1v _ this.2 _ this.1
  have hrun : ∀ ty, (Builtin.append_ #[23, 23] ty #[.slice (some ⟨b, 0, none⟩) n c, .slice (some ⟨vb, 0, none⟩) 1 vc]).run Try.prog w = .ok (.slice (some ⟨b, 0, none⟩) (n + 1) c) (w.setCells b (0 + n * i0.size) vs) := fun ty =>
    run_append_room_cells (P := Try.prog) w 23 ty 84 i0 t24 hi0 b 0 n c ⟨vb, 0, none⟩ 1 vc vs hvlen (fun j u hj => by rw [Addr.add_lit, Nat.zero_add]; exact (cellV _).trans (hvget j u hj).1) one2 hroom
      (fun j hj => by
        rw [hvlen, hz1] at hj
        rw [hz1, cellC, Array.getElem?_eq_getElem (by omega)]; rfl) (fun j hj => by
        rw [hvlen, hz1] at hj
        rw [hz1]; exact hfr _ (by omega))
  rw [hz1, Nat.zero_add] at hrun
  rw [← hvsd]
  clear hvget cellC cellV hvsd hvlen
  go_enter Try.func104, Try.ntmps104
  go_wp2_with (at_builtin; refine Lib.wpList_append_run _ rfl _ _ _ _ rfl _ _ rfl rfl _ _ (hrun _) ?_)
  go_ret
  exact ⟨rfl, rfl⟩
end Go.Proofs.YtoomjemboekooaaBv
