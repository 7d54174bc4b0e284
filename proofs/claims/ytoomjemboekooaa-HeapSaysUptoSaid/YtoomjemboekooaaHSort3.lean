/- slices.Values, slices.Sorted over it and slices.Sort at ints, as contracts of the calculus. -/
import Derived.Test.YtoomjemboekooaaHSort2
import Derived.Test.YtoomjemboekooaaBv27
namespace Go.Proofs.YtoomjemboekooaaBv
open Go Go.Proofs Go.RowKit
set_option linter.unusedVariables false
set_option linter.unusedSimpArgs false
theorem addz (a : Addr) : a.add 0 = a := by simp [Addr.add]
/-- a slice that is only read, of ints: what the model's slice is -/
theorem relRoI {K : Ctx} {nl : Bool} {xs : List Int} {v : Value} (h : RelC K (.ro nl 1 (xs.map eI)) v) : ∃ (A : Option Addr) (c : Nat), v = .slice A xs.length c ∧ (∀ j, j < xs.length → (A.bind fun ad => K.w.cell? (ad.add j)) = some (.int .i64 (xs[j]?.getD 0))) ∧ ∀ ad, A = some ad → xs ≠ [] → K.S ad.block := by
  cases h with
  | @ro _ _ _ c _ A f hn hc hz hl hs hcell hrel =>
    refine ⟨A, c, by rw [List.length_map], fun j hj => ?_, fun ad e hx => hs ad e (by simpa using hx) (by decide)⟩
    have e1 : (xs.map eI)[j]? = some (eI xs[j]) := by rw [List.getElem?_map, List.getElem?_eq_getElem hj]; rfl
    have e2 := hcell j _ e1 0 (.val (.int .i64 xs[j])) rfl
    have e3 := relC_vv (hrel j _ e1 0 (.val (.int .i64 xs[j])) rfl)
    rw [e3] at e2
    rw [List.getElem?_eq_getElem hj]
    simpa using e2
theorem bareRo {K : Ctx} {nl : Bool} {sz : Nat} {xs : List (List Cel)} {v : Value} (h : RelC K (.ro nl sz xs) v) : RelC K.bare (.ro nl sz xs) v := by
  cases h with
  | ro f hn hc hz hl hs hcell hrel => exact .ro f hn hc hz hl hs hcell hrel

theorem values_ok {Γ : Glob} {nl : Bool} {xs : List Int} : CPure Try.prog Γ 29 [.c (.ro nl 1 (xs.map eI))] (.c (.fn (.func 60) [] [.rop [.ro nl 1 (xs.map eI)]])) := by
  intro E w μ κ cargs H hsz hrel
  have h0 := hrel 0 _ rfl
  cases h0 with
  | c h0 =>
    have h0' := h0
    obtain ⟨A, c, e0, -, -⟩ := relRoI h0
    rw [arr1 hsz, e0]
    refine (values_in A xs.length c w).mono ?_
    rintro e w' ⟨rfl, rfl⟩
    have hh : ∀ k, k < w.heap.size → (w.alloc (.cells #[Value.slice A xs.length c] 54)).heap[k]? = w.heap[k]? := fun k hk => by rw [alloc_heap, if_neg (by omega)]
    obtain ⟨H', F'⟩ := grown_ok (w' := w.alloc (.cells #[Value.slice A xs.length c] 54)) H (by simp) hh rfl rfl rfl
    refine ⟨_, _, _, _, μ, κ, rfl, ⟨rfl, rfl, rfl⟩, H', F', .c (.fn rfl rfl (fun i x hi => by cases hi) (fun i x hi => ?_))⟩
    cases i with
    | succ i => cases hi
    | zero =>
      cases hi
      refine .rop (fun _ => Value.slice A xs.length c) (fun _ => ⟨by simp, fun hE => absurd (H.lt _ hE) (Nat.lt_irrefl _), fun b x hb => by cases hb⟩) (fun j x hj => ?_) (fun j x hj => ?_)
      · cases j with
        | succ j => cases hj
        | zero =>
          rw [addz]
          show (w.alloc (.cells #[Value.slice A xs.length c] 54)).cell? ⟨w.heap.size, 0, none⟩ = _
          have := alloc_heap w (.cells #[Value.slice A xs.length c] 54) w.heap.size
          rw [if_pos rfl] at this
          unfold World.cell?
          simp only [this]
          rfl
      · cases j with
        | succ j => cases hj
        | zero =>
          cases hj
          have := (h0'.mono F'.le)
          rw [e0] at this
          exact bareRo this

/-- a world that has grown, and a new block in it -/
theorem new_grown {Γ : Glob} {E : Nat → Prop} {w w' : World} {μ κ : Nat → Nat} {g cap sz : Nat} {C : Array Value} {T : TypeId} {es : List (List Cel)} (H : HeapOK Γ E w μ κ (fun _ => none) 0) (hB : RowKit.Below w.heap.size w w') (hg : w.heap.size ≤ g)
    (hb : w'.heap[g]? = some (.cells C T (0, 0))) (hcap : es.length ≤ cap) (hC : cap * sz ≤ C.size)
    (hc : ∀ K (i : Nat) (e : List Cel), es[i]? = some e → e.length = sz ∧ ∀ (j : Nat) (x : Cel), e[j]? = some x → ∃ v, C[i * sz + j]? = some v ∧ RelC K x v) :
    HeapOK Γ E w' (upd μ 0 g) (upd κ 0 cap) (upd (fun _ => none) 0 (lstB false sz es)) 1 ∧ From E (ctx E w μ κ (fun _ => none) 0) (ctx E w' (upd μ 0 g) (upd κ 0 cap) (upd (fun _ => none) 0 (lstB false sz es)) 1) ∧
      RelV (ctx E w' (upd μ 0 g) (upd κ 0 cap) (upd (fun _ => none) 0 (lstB false sz es)) 1) (lstV false 0 sz es.length) (.slice (some ⟨g, 0, none⟩) es.length cap) := by
  have hh := hB.block
  have u : ∀ b y, upd (fun _ => none : Heap) 0 (lstB false sz es) b = some y → b = 0 ∧ y = .cells sz es := fun b y h => by
    by_cases e : b = 0
    · subst e; rw [upd_same] at h; cases h; exact ⟨rfl, rfl⟩
    · rw [upd_ne _ _ e] at h; cases h
  have F : From E (ctx E w μ κ (fun _ => none) 0) (ctx E w' (upd μ 0 g) (upd κ 0 cap) (upd (fun _ => none) 0 (lstB false sz es)) 1) := by
    refine ⟨⟨Nat.zero_le _, fun b h => absurd h (Nat.not_lt_zero _), fun b h => absurd h (Nat.not_lt_zero _), fun k hk => ⟨Nat.lt_of_lt_of_le hk.1 hB.size, hk.2.1, fun b y hb => ?_⟩, fun k hk => hh k hk.1⟩, hB.size, hB.os, hB.tape, hB.output, fun k _ hk => hh k hk⟩
    obtain ⟨rfl, rfl⟩ := u b y hb
    show upd μ 0 g 0 ≠ k
    rw [upd_same]; have := hk.1; omega
  refine ⟨⟨fun k hk => Nat.lt_of_lt_of_le (H.lt k hk) hB.size, fun b x hx => ?_, fun b b' x x' h1 h2 _ => ?_, fun b x hx => ?_, fun b x hx => ?_, fun g' => (H.glob g').mono F.le⟩, F, ?_⟩
  · rw [(u b x hx).1]; exact Nat.lt_succ_self 0
  · rw [(u b x h1).1, (u b' x' h2).1]
  · obtain ⟨rfl, rfl⟩ := u b x hx
    rw [upd_same]; intro h; have := H.lt _ h; omega
  · obtain ⟨rfl, rfl⟩ := u b x hx
    refine ⟨C, T, (0, 0), ?_, fun i hi => by simp, ?_, ?_, fun i e he => hc _ i e he⟩
    · show w'.heap[upd μ 0 g 0]? = _
      rw [upd_same]; exact hb
    · show es.length ≤ upd κ 0 cap 0
      rw [upd_same]; exact hcap
    · show upd κ 0 cap 0 * sz ≤ C.size
      rw [upd_same]; exact hC
  · have r := RelC.own (K := ctx E w' (upd μ 0 g) (upd κ 0 cap) (upd (fun _ => none) 0 (lstB false sz es)) 1) (b := 0) (sz := sz) (off := 0) (len := es.length) (m := es.length) (cap := cap) (o := 0) (Nat.lt_succ_self 0) (Nat.le_refl _) hcap (.inl (by simp)) (by show 0 + cap ≤ upd κ 0 cap 0; rw [upd_same]; omega)
    have e : (ctx E w' (upd μ 0 g) (upd κ 0 cap) (upd (fun _ => none) 0 (lstB false sz es)) 1).μ 0 = g := upd_same μ 0 g
    rw [e] at r
    exact .c r

theorem relNilL {K : Ctx} {sz : Nat} {v : Value} (h : RelV K (.c (.ro true sz [])) v) : v = .slice none 0 0 := by
  cases h with
  | c h =>
    cases h with
    | ro f hn hc hz hl hs hcell hrel =>
      have := hn rfl
      subst this
      rw [hz rfl]
      rfl
def sortI (xs : List Int) : List Int := xs.mergeSort fun x y => decide (x ≤ y)
def sorted? (xs : List Int) : Option (List Int) := if xs.length * 8 ≤ 140737488351232 then some (sortI xs) else none
theorem sorted_some {xs : List Int} (h : xs.length * 8 ≤ 140737488351232) : sorted? xs = some (sortI xs) := if_pos h
theorem sorted_ok {Γ : Glob} {nl : Bool} {xs r : List Int} (h : sorted? xs = some r) :
    ACalls Try.prog Γ 28 [.c (.fn (.func 60) [] [.rop [.ro nl 1 (xs.map eI)]])] (fun _ => none) 0 (fun v h' n' => ∃ z : Bool, (z = true → r = []) ∧ v = lstV z 0 1 r.length ∧ (h' = (upd (fun _ => none) 0 (lstB z 1 (r.map eI)))) ∧ n' = 1) := by
  unfold sorted? at h
  split at h
  · rename_i hn
    cases h
    intro E w μ κ cargs H hsz hrel
    have h0 := hrel 0 _ rfl
    rw [arr1 hsz]
    generalize cargs.getD 0 undef = v0 at h0
    cases h0 with
    | c h0 =>
      cases h0 with
      | @fn _ _ _ _ vs us h1 h2 r1 r2 =>
        have e1 : vs = #[] := Array.eq_empty_of_size_eq_zero h1.symm
        have e2 := arr1 (a := us) h2.symm
        have h3 := r2 0 _ rfl
        subst e1
        rw [e2]
        generalize us.getD 0 undef = u0 at h3
        cases h3 with
        | @rop _ _ ad f hs hcell hrel' =>
          have hb := hs (by simp)
          have hc0 := hcell 0 _ rfl
          rw [addz] at hc0
          obtain ⟨A, c, e3, hA, hS⟩ := relRoI (hrel' 0 _ rfl)
          rw [e3] at hc0
          refine (sorted_calls ad A c xs hn w hb.1 hc0 hA (fun a ha hx => (hS a ha hx).1)).mono ?_
          rintro e w' ⟨v, rfl, hrow, hnil, hB⟩
          have hlen : (sortI xs).length = xs.length := List.length_mergeSort _
          rcases hrow.2 with ⟨rfl, hz⟩ | ⟨g, cap, cur, rfl, hg, hgb, hnc, hcm, hcs, hct⟩
          · have hx : xs = [] := List.eq_nil_of_length_eq_zero hz
            subst hx
            have eh : upd (fun _ => none) 0 (lstB true 1 ((sortI []).map eI)) = (fun _ => none : Heap) := by
              funext b
              unfold upd
              cases b.beq 0 <;> rfl
            obtain ⟨H', F'⟩ := grown_ok H hB.size hB.block hB.os hB.tape hB.output
            have L1 : Ctx.Le (ctx E w' μ κ (fun _ => none) 0) (ctx E w' μ κ (fun _ => none) 1) := ⟨Nat.zero_le _, fun _ _ => rfl, fun _ _ => rfl, fun k hk => ⟨hk.1, hk.2.1, hk.2.2⟩, fun k hk => rfl⟩
            refine ⟨_, _, _, _, μ, κ, rfl, ⟨true, fun _ => by simp [sortI], rfl, rfl, rfl⟩, ?_, ?_, ?_⟩
            · rw [eh]
              exact ⟨H'.lt, fun b x h => (by cases h), fun b b' x x' h => (by cases h), fun b x h => (by cases h), fun b x h => (by cases h), fun g => (H'.glob g).mono L1⟩
            · rw [eh]
              exact F'.trans ⟨L1, Nat.le_refl _, rfl, rfl, rfl, fun k _ hk => rfl⟩
            · exact .c (.ro (fun _ _ => undef) (fun _ => rfl) (Nat.le_refl _) (fun _ => rfl) (fun i e h => by cases h) (fun ad h => by cases h) (fun i e h => by cases h) (fun i e h => by cases h))
          · obtain ⟨H2, F2, R2⟩ := new_grown (sz := 1) (cap := cap) (es := (sortI xs).map eI) H hB hg hgb (by rw [List.length_map, hlen]; exact hnc) (by omega) (fun K i e he => by
              rw [List.getElem?_map] at he
              cases hx : (sortI xs)[i]? with
              | none => rw [hx] at he; cases he
              | some x =>
                rw [hx] at he
                cases he
                refine ⟨rfl, fun j y hy => ?_⟩
                cases j with
                | succ j => simp [eI] at hy
                | zero =>
                  cases hy
                  refine ⟨.int .i64 x, ?_, .val rfl⟩
                  have hi : i < xs.length := by rw [← hlen]; exact (List.getElem?_eq_some_iff.1 hx).1
                  have := congrArg (fun l => l[i]?) hct
                  simp only [List.getElem?_take, List.getElem?_map] at this
                  rw [if_pos (by omega)] at this
                  rw [Nat.mul_one, Nat.add_zero, ← Array.getElem?_toList, this]
                  show Option.map encZ (sortI xs)[i]? = _
                  rw [hx]; rfl)
            rw [List.length_map, hlen] at R2
            refine ⟨_, _, _, _, _, _, rfl, ⟨false, (fun h => by cases h), rfl, rfl, rfl⟩, H2, F2, ?_⟩
            rw [hlen]; exact R2
  · cases h
def sort? (xs : List Int) : Option (List Int) := if xs.length < 4611686018427387904 then some (sortI xs) else none
theorem sort_some {xs : List Int} (h : xs.length < 4611686018427387904) : sort? xs = some (sortI xs) := if_pos h
/-- the list is sorted in place -/
theorem sort_ok {Γ : Glob} {x_ r : List Int} {zx : Bool} (hzx : zx = true → x_ = []) (h : sort? x_ = some r) :
    ACalls Try.prog Γ 51 [(lstV zx 0 1 x_.length)] (upd (fun _ => none) 0 (lstB zx 1 (x_.map eI))) 1 (fun v h' n' => v = (.tup []) ∧ (h' = (upd (fun _ => none) 0 (lstB zx 1 (r.map eI)))) ∧ n' = 1) := by
  unfold sort? at h
  split at h
  · rename_i hn
    cases h
    intro E w μ κ cargs H hsz hrel
    have h0 := hrel 0 _ rfl
    rw [arr1 hsz]
    generalize cargs.getD 0 undef = v0 at h0
    have none' : ∀ p cap, (sortI x_ = x_) → Calls Try.prog 51 #[.slice p 0 cap] w fun e w' => ∃ (cv : Value) (r : AV) (h' : Heap) (n' : Nat) (μ' κ' : Nat → Nat), e = .returned cv ∧ (r = (.tup []) ∧ (h' = (upd (fun _ => none) 0 (lstB zx 1 ((sortI x_).map eI)))) ∧ n' = 1) ∧ HeapOK Γ E w' μ' κ' h' n' ∧
      From E (ctx E w μ κ (upd (fun _ => none) 0 (lstB zx 1 (x_.map eI))) 1) (ctx E w' μ' κ' h' n') ∧ RelV (ctx E w' μ' κ' h' n') r cv := fun p cap hs => by
      refine (Any.slices_Sort_int_none Try.lays189 p cap w).mono ?_
      rintro e w' ⟨rfl, rfl⟩
      rw [hs]
      exact ⟨_, _, _, _, μ, κ, rfl, ⟨rfl, rfl, rfl⟩, H, .refl _ _, .tup rfl (fun i x hi => by cases hi)⟩
    cases zx with
    | true =>
      have hx := hzx rfl
      subst hx
      rw [relNilL h0]
      exact none' _ _ (by simp [sortI])
    | false =>
      cases h0 with
      | c h0 =>
        cases h0 with
        | @own _ _ _ _ _ _ cap o hb hl hm ho hk =>
          by_cases hx : x_ = []
          · subst hx
            exact none' _ _ (by simp [sortI])
          · have hl0 : 0 < x_.length := List.length_pos_iff.2 hx
            have ho' : o = 0 := by
              rcases ho with ho | ho
              · simpa using ho
              · have := hm; omega
            subst ho'
            have B := H.blk 0 (.cells 1 (x_.map eI)) rfl
            obtain ⟨C, T, fr, hb1, hfr, hes, hC, hcel⟩ := B
            replace hb1 : w.heap[μ 0]? = some (.cells C T fr) := hb1
            replace hes : x_.length ≤ κ 0 := by rw [← List.length_map (f := eI)]; exact hes
            replace hC : κ 0 * 1 ≤ C.size := hC
            have cell : ∀ j, (hj : j < x_.length) → C[j]? = some (.int .i64 x_[j]) := fun j hj => by
              have e1 : (x_.map eI)[j]? = some (eI x_[j]) := by rw [List.getElem?_map, List.getElem?_eq_getElem hj]; rfl
              obtain ⟨v, e2, e3⟩ := (hcel j _ e1).2 0 _ rfl
              rw [relC_vv e3] at e2
              simpa using e2
            have hH : Sort.Holds (Value.int .i64) w (μ 0) 0 x_.toArray := fun j hj => by
              have hj' : j < x_.length := hj
              have hbang : x_.toArray[j]! = x_[j] := by simp [hj']
              refine ⟨?_, ?_⟩
              · rw [hbang]
                unfold World.cell?
                simp only [Nat.zero_add, hb1]
                exact cell j hj'
              · unfold World.frozen?
                simp only [Nat.zero_add, hb1]
                simpa using hfr j (by omega)
            refine (Any.slices_Sort_int Try.lays189 (μ 0) 0 cap x_ w hH (Array.getElem?_eq_some_iff.1 hb1).1 hn).mono ?_
            rintro e w' ⟨rfl, n1, os, rfl⟩
            have hlen : (sortI x_).length = x_.length := List.length_mergeSort _
            obtain ⟨W1, hW1⟩ : ∃ W1, Sort.putRow (Value.int .i64) w (μ 0) 0 (sortI x_).toArray = W1 := ⟨_, rfl⟩
            have hsame : ∀ k, k ≠ μ 0 → W1.heap[k]? = w.heap[k]? := fun k hk => by
              subst hW1
              show (w.heap.modify (μ 0) _)[k]? = _
              rw [Array.getElem?_modify, if_neg (Ne.symm hk)]
            have hat : W1.heap[μ 0]? = some (.cells (Sort.putCells (Value.int .i64) 0 (sortI x_).toArray C) T fr) := by
              subst hW1
              show (w.heap.modify (μ 0) _)[μ 0]? = _
              rw [Array.getElem?_modify, if_pos rfl, hb1]; rfl
            have hss : W1.heap.size = w.heap.size := by subst hW1; exact Sort.size_putRow _ _ _ _ _
            have hup : upd (upd (fun _ => none) 0 (lstB false 1 (x_.map eI))) 0 (some (.cells 1 ((sortI x_).map eI))) = (upd (fun _ => none) 0 (lstB false 1 ((sortI x_).map eI)) : Heap) := by
              funext b
              unfold upd
              cases b.beq 0 <;> rfl
            have hos : W1.os = w.os ∧ W1.tape = w.tape ∧ W1.output = w.output := by subst hW1; exact ⟨rfl, rfl, rfl⟩
            obtain ⟨H1, F1⟩ := H.write (w' := W1) (b := 0) (x := .cells 1 (x_.map eI)) (x' := .cells 1 ((sortI x_).map eI)) rfl hss hos.1 hos.2.1 hos.2.2 hsame
              ⟨_, T, fr, hat, fun i hi => hfr i (by simpa [Sort.putCells] using hi), by show ((sortI x_).map eI).length ≤ κ 0; rw [List.length_map, hlen]; exact hes, by show κ 0 * 1 ≤ _; simpa [Sort.putCells] using hC, fun i e he => by
                rw [List.getElem?_map] at he
                cases hxi : (sortI x_)[i]? with
                | none => rw [hxi] at he; cases he
                | some x =>
                  rw [hxi] at he
                  cases he
                  obtain ⟨hi, hxe⟩ := List.getElem?_eq_some_iff.1 hxi
                  refine ⟨rfl, fun j y hy => ?_⟩
                  cases j with
                  | succ j => simp [eI] at hy
                  | zero =>
                    cases hy
                    refine ⟨.int .i64 x, ?_, .val rfl⟩
                    have hC2 : i < C.size := by omega
                    have hi' : i < (sortI x_).toArray.size := hi
                    rw [Nat.mul_one, Nat.add_zero]
                    simp only [Sort.putCells, Array.getElem?_mapIdx, Array.getElem?_eq_getElem hC2, Option.map_some]
                    rw [if_pos ⟨Nat.zero_le _, by simpa using hi⟩]
                    simp [hi, hxe]⟩
            rw [hup] at H1 F1
            obtain ⟨H2, F2⟩ := grown_ok (w' := Sort.grow (Sort.putRow (Value.int .i64) (Sort.ahead w n1) (μ 0) 0 (sortI x_).toArray) os) H1
              (by subst hW1; show _ ≤ ((Sort.putRow (Value.int .i64) (Sort.ahead w n1) (μ 0) 0 (sortI x_).toArray).heap ++ os).size; rw [Array.size_append, Sort.size_putRow, Sort.size_putRow]; exact Nat.le_add_right _ _)
              (fun k hk => by
                subst hW1
                show ((Sort.putRow (Value.int .i64) (Sort.ahead w n1) (μ 0) 0 (sortI x_).toArray).heap ++ os)[k]? = _
                rw [Array.getElem?_append_left (by rw [Sort.size_putRow] at hk ⊢; exact hk)]; rfl)
              (by subst hW1; rfl) (by subst hW1; rfl) (by subst hW1; rfl)
            exact ⟨_, _, _, _, μ, κ, rfl, ⟨rfl, rfl, rfl⟩, H2, F1.trans F2, .tup rfl (fun i x hi => by cases hi)⟩
  · cases h
end Go.Proofs.YtoomjemboekooaaBv
