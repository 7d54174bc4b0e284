/- The calculus: operations that make or change memory. It proves nothing of any program. -/
import Derived.Test.YtolmbcngghkfiaaDoorBv9
import Derived.Deep.AppendSrc
import Derived.Laws.IdiomCopy
namespace Go.Proofs.YtolmbcngghkfiaaDoorBv
open Go
set_option linter.unusedVariables false
set_option linter.unusedSimpArgs false

/-- What an operation that makes or changes memory does. -/
def Did (P : Program) (Γ : Glob) (E : Nat → Prop) (w : World) (μ κ : Nat → Nat) (h : Heap) (n : Nat) (a : Act) (o : Oper) (v : Option AV) (h' : Heap) (n' : Nat) : Prop :=
  ∃ (w' : World) (μ' κ' : Nat → Nat) (nx : Next) (cv : Value), (execOp a.eval o).run P w = .ok nx w' ∧ (nx = .value cv ∨ (nx = .skip ∧ cv = undef)) ∧ HeapOK Γ E w' μ' κ' h' n' ∧
    From E (ctx E w μ κ h n) (ctx E w' μ' κ' h' n') ∧ ∀ x, v = some x → RelV (ctx E w' μ' κ' h' n') x cv

theorem setCells_heap {b : Nat} {t : TypeId} {fr : Nat × Nat} : ∀ (vs : List Value) (o : Nat) (w : World) (C : Array Value), w.heap[b]? = some (.cells C t fr) → o + vs.length ≤ C.size →
    (w.setCells b o vs).heap.size = w.heap.size ∧ (w.setCells b o vs).os = w.os ∧ (w.setCells b o vs).tape = w.tape ∧ (w.setCells b o vs).output = w.output ∧
    (∀ k, k ≠ b → (w.setCells b o vs).heap[k]? = w.heap[k]?) ∧
    ∃ C' : Array Value, (w.setCells b o vs).heap[b]? = some (.cells C' t fr) ∧ C'.size = C.size ∧ ∀ k, C'[k]? = if o ≤ k ∧ k < o + vs.length then vs[k - o]? else C[k]? := by
  intro vs
  induction vs with
  | nil => intro o w C hC _; exact ⟨rfl, rfl, rfl, rfl, fun _ _ => rfl, C, hC, rfl, fun k => by rw [if_neg (by simp)]⟩
  | cons v vs ih =>
    intro o w C hC hl
    simp only [List.length_cons] at hl
    have hb1 : (w.setCell ⟨b, o, none⟩ v).heap[b]? = some (.cells (C.setIfInBounds o v) t fr) := by
      simp only [World.setCell, Array.getElem?_modify, if_true, hC, Option.map_some]
      rfl
    obtain ⟨h1, h2, h3, h4, h5, C', h6, h7, h8⟩ := ih (o + 1) (w.setCell ⟨b, o, none⟩ v) (C.setIfInBounds o v) hb1 (by rw [Array.size_setIfInBounds]; omega)
    refine ⟨by rw [World.setCells, h1]; simp, by rw [World.setCells, h2]; rfl, by rw [World.setCells, h3]; rfl, by rw [World.setCells, h4]; rfl, fun k hk => ?_, C', h6, by rw [h7]; simp, fun k => ?_⟩
    · rw [World.setCells, h5 k hk]
      simp only [World.setCell, Array.getElem?_modify]
      rw [if_neg (Ne.symm hk)]
    · rw [h8 k]
      simp only [List.length_cons]
      by_cases hk : o + 1 ≤ k ∧ k < o + 1 + vs.length
      · rw [if_pos hk, if_pos (by omega), show k - o = (k - (o + 1)) + 1 by omega]
        simp
      · rw [if_neg hk]
        by_cases hk2 : k = o
        · subst hk2
          rw [if_pos (by omega), Nat.sub_self, Array.getElem?_setIfInBounds_self_of_lt (by omega)]
          rfl
        · rw [if_neg (by omega), Array.getElem?_setIfInBounds_ne (by omega)]

theorem block_cell {w : World} {b : Nat} {C : Array Value} {t : TypeId} {fr : Nat × Nat} (h : w.heap[b]? = some (.cells C t fr)) (k : Nat) : w.cell? ⟨b, k, none⟩ = C[k]? := by
  show (match w.heap[b]? with | some (Obj.cells c _ _) => if false then none else c[k]? | _ => none) = _
  rw [h]
  rfl

theorem block_free {w : World} {b : Nat} {C : Array Value} {t : TypeId} {fr : Nat × Nat} (h : w.heap[b]? = some (.cells C t fr)) (hf : ∀ i, i < C.size → (decide (fr.1 ≤ i) && decide (i < fr.2)) = false) (k : Nat) (hk : k < C.size) :
    w.frozen? ⟨b, k, none⟩ = false := by
  show (match w.heap[b]? with | some (Obj.cells _ _ (lo, hi)) => decide (lo ≤ k) && decide (k < hi) | _ => false) = _
  rw [h]
  exact hf k hk

section
variable {P : Program} {Γ : Glob} {E : Nat → Prop} {w : World} {μ κ : Nat → Nat} {h : Heap} {n : Nat} {env : Nat → Option AV} {a : Act}
  {dst : Option Tmp} {type : TypeId} {pos : String} {after : Array Edge} {guard : Option (Nat × Bool)} {ao : AOp} {v : Option AV} {h' : Heap} {n' : Nat}

theorem ofCells_flat (g : Option Bool) (l : List Cel) : (AV.ofCells g l).flat = some l := by
  unfold AV.ofCells
  split
  · rfl
  · split <;> rfl

/-- a new row of elements -/
theorem new_row (H : HeapOK Γ E w μ κ h n) (C : Array Value) (t : TypeId) (fr : Nat × Nat) (sz : Nat) (es : List (List Cel)) (c : Nat) (hf : Fz sz C.size c fr)
    (hc : es.length ≤ c) (hs : c * sz ≤ C.size) (hr : ∀ (i : Nat) (e : List Cel), es[i]? = some e → e.length = sz ∧ ∀ (j : Nat) (x : Cel), e[j]? = some x → ∃ v, C[i * sz + j]? = some v ∧ RelC (ctx E w μ κ h n) x v) :
    HeapOK Γ E (w.alloc (.cells C t fr)) (upd μ n w.heap.size) (upd κ n c) (upd h n (some (.cells sz es))) (n + 1) ∧
    From E (ctx E w μ κ h n) (ctx E (w.alloc (.cells C t fr)) (upd μ n w.heap.size) (upd κ n c) (upd h n (some (.cells sz es))) (n + 1)) := by
  have F := alloc_le H (.cells C t fr) (.cells sz es) c
  refine ⟨H.alloc _ _ c ⟨C, t, fr, ?_, by show Fz sz C.size (upd κ n c n) fr; rw [upd_same]; exact hf, ?_, ?_, fun i e he => ⟨(hr i e he).1, fun j x hj => ?_⟩⟩, F⟩
  · show (w.alloc (.cells C t fr)).heap[upd μ n w.heap.size n]? = _
    rw [upd_same, alloc_heap, if_pos rfl]
  · show es.length ≤ upd κ n c n
    rw [upd_same]; exact hc
  · show upd κ n c n * sz ≤ C.size
    rw [upd_same]; exact hs
  · obtain ⟨u, hu, hrel⟩ := (hr i e he).2 j x hj
    exact ⟨u, hu, hrel.mono F.le⟩

/-- a draw ahead of it -/
theorem drew_row (H : HeapOK Γ E w μ κ h n) (C : Array Value) (t : TypeId) (fr : Nat × Nat) (sz : Nat) (es : List (List Cel)) (c : Nat) (hf : Fz sz C.size c fr)
    (hc : es.length ≤ c) (hs : c * sz ≤ C.size) (hr : ∀ (i : Nat) (e : List Cel), es[i]? = some e → e.length = sz ∧ ∀ (j : Nat) (x : Cel), e[j]? = some x → ∃ v, C[i * sz + j]? = some v ∧ RelC (ctx E w μ κ h n) x v) :
    HeapOK Γ E (w.drew.alloc (.cells C t fr)) (upd μ n w.heap.size) (upd κ n c) (upd h n (some (.cells sz es))) (n + 1) ∧
    From E (ctx E w μ κ h n) (ctx E (w.drew.alloc (.cells C t fr)) (upd μ n w.heap.size) (upd κ n c) (upd h n (some (.cells sz es))) (n + 1)) := by
  obtain ⟨H1, F1⟩ := H.drew (w.drawn + 1)
  obtain ⟨H2, F2⟩ := new_row H1 C t fr sz es c hf hc hs (fun i e he => ⟨(hr i e he).1, fun j x hj => by
    obtain ⟨u, hu, hrel⟩ := (hr i e he).2 j x hj
    exact ⟨u, hu, hrel.mono F1.le⟩⟩)
  exact ⟨H2, F1.trans F2⟩

variable (H : HeapOK Γ E w μ κ h n) (HE : EnvOK (ctx E w μ κ h n) env a)
include H HE

omit HE in
theorem box_core {u : Value} {l : List Cel} (elem : TypeId) (hl : l.length = u.cells.size) (hr : ∀ (i : Nat) (x : Cel), l[i]? = some x → RelC (ctx E w μ κ h n) x (u.cells.getD i undef)) :
    HeapOK Γ E (w.alloc (.cells u.cells elem)) (upd μ n w.heap.size) (upd κ n 1) (upd h n (some (.cells l.length [l]))) (n + 1) ∧
    From E (ctx E w μ κ h n) (ctx E (w.alloc (.cells u.cells elem)) (upd μ n w.heap.size) (upd κ n 1) (upd h n (some (.cells l.length [l]))) (n + 1)) ∧
    RelV (ctx E (w.alloc (.cells u.cells elem)) (upd μ n w.heap.size) (upd κ n 1) (upd h n (some (.cells l.length [l]))) (n + 1)) (.c (.ref n l.length 0 0)) (.pointer (some ⟨w.heap.size, 0, none⟩)) := by
  obtain ⟨H1, F1⟩ := new_row H u.cells elem (0, 0) l.length [l] 1 (Fz.plain _ _ _ (by unfold maxLen; omega)) (Nat.le_refl _) (by rw [hl]; omega) (fun i e he => by
    cases i with
    | zero =>
      simp only [List.getElem?_cons_zero, Option.some.injEq] at he
      subst he
      refine ⟨rfl, fun j x hj => ⟨u.cells.getD j undef, ?_, hr j x hj⟩⟩
      have : j < u.cells.size := by rw [← hl]; exact (List.getElem?_eq_some_iff.1 hj).1
      rw [Nat.zero_mul, Nat.zero_add]
      exact get_of_getD this
    | succ i => simp at he)
  refine ⟨H1, F1, .c ?_⟩
  have := RelC.ref (K := ctx E (w.alloc (.cells u.cells elem)) (upd μ n w.heap.size) (upd κ n 1) (upd h n (some (.cells l.length [l]))) (n + 1)) (b := n) (sz := l.length) (i := 0) (j := 0) (Nat.lt_succ_self n)
  simp only [Nat.zero_mul, Nat.zero_add] at this
  rwa [show (ctx E (w.alloc (.cells u.cells elem)) (upd μ n w.heap.size) (upd κ n 1) (upd h n (some (.cells l.length [l]))) (n + 1)).μ n = w.heap.size from upd_same _ _ _] at this

theorem box_ok {e : TypeId} {x : Operand} (hc : compOp P ⟨dst, .box e x, type, pos, after, guard⟩ = some ao) (hs : step2 Γ ⟨env, h, n⟩ ao = some (v, h', n')) :
    Did P Γ E w μ κ h n a ⟨dst, .box e x, type, pos, after, guard⟩ v h' n' := by
  simp only [compOp, Option.map_eq_some_iff] at hc
  obtain ⟨y, hy, rfl⟩ := hc
  simp only [step2] at hs
  split at hs
  · rename_i l hl
    simp only [Option.some.injEq, Prod.mk.injEq] at hs
    obtain ⟨rfl, rfl, rfl⟩ := hs
    obtain ⟨h1, h2⟩ := cells_ok H HE hy hl
    obtain ⟨H1, F1, R1⟩ := box_core H e h1 h2
    exact ⟨_, _, _, _, _, rfl, .inl rfl, H1, F1, fun x hx => by cases hx; exact R1⟩
  · cases hs

omit HE in
/-- one more number is passed over -/
theorem bump0 : HeapOK Γ E w μ κ h (n + 1) ∧ From E (ctx E w μ κ h n) (ctx E w μ κ h (n + 1)) := by
  have F : From E (ctx E w μ κ h n) (ctx E w μ κ h (n + 1)) :=
    ⟨⟨Nat.le_succ _, fun _ _ => rfl, fun _ _ => rfl, fun _ h => h, fun _ _ => rfl⟩, Nat.le_refl _, rfl, rfl, rfl, fun _ _ _ => rfl⟩
  exact ⟨⟨H.lt, fun b x hb => Nat.lt_succ_of_lt (H.bound b x hb), H.inj, H.res, fun b x hb => (H.blk b x hb).mono F.le (H.bound b x hb) rfl, fun g => (H.glob g).mono F.le⟩, F⟩

omit HE in
theorem alloc_ok {e : TypeId} (hc : compOp P ⟨dst, .alloc e, type, pos, after, guard⟩ = some ao) (hs : step2 Γ ⟨env, h, n⟩ ao = some (v, h', n')) :
    Did P Γ E w μ κ h n a ⟨dst, .alloc e, type, pos, after, guard⟩ v h' n' := by
  simp only [compOp] at hc
  split at hc
  · rename_i hbld
    cases hc
    obtain ⟨ti, hti, hz⟩ := isBld_zero P hbld
    simp only [step2, Option.some.injEq, Prod.mk.injEq] at hs
    obtain ⟨rfl, rfl, rfl⟩ := hs
    obtain ⟨H0, F0⟩ := bump0 H
    have F1 := alloc_le H0 (.cells #[.pointer none, .slice none 0 0] e) (.bld e true n 0) 1
    have H1 := H0.alloc (.cells #[.pointer none, .slice none 0 0] e) (.bld e true n 0) 1 (by
      refine ⟨.pointer none, .slice none 0 0, ?_, .inl rfl, Nat.lt_succ_of_lt (Nat.lt_succ_self n), fun _ => rfl, fun h => by cases h⟩
      show (w.alloc (.cells #[.pointer none, .slice none 0 0] e)).heap[upd μ (n + 1) w.heap.size (n + 1)]? = _
      rw [upd_same, alloc_heap, if_pos rfl])
    have R1 := RelC.ref (K := ctx E (w.alloc (.cells #[.pointer none, .slice none 0 0] e)) (upd μ (n + 1) w.heap.size) (upd κ (n + 1) 1) (upd h (n + 1) (some (.bld e true n 0))) (n + 1 + 1)) (b := n + 1) (sz := 2) (i := 0) (j := 0) (Nat.lt_succ_self (n + 1))
    have em : (ctx E (w.alloc (.cells #[.pointer none, .slice none 0 0] e)) (upd μ (n + 1) w.heap.size) (upd κ (n + 1) 1) (upd h (n + 1) (some (.bld e true n 0))) (n + 1 + 1)).μ (n + 1) = w.heap.size := upd_same μ (n + 1) w.heap.size
    rw [em] at R1
    refine ⟨_, _, _, .value (.pointer (some ⟨w.heap.size, 0, none⟩)), _, ?_, .inl rfl, H1, F0.trans F1, fun x hx => by cases hx; exact .c R1⟩
    simp only [execOp, Instr.alloc, Sem.run_bind, zeroValue, run_typeInfo' hti, hz, Result.andThen_ok, Sem.run_pure, newVar, newRow, run_newObj]
    rfl
  simp only [bind, Option.bind_eq_some_iff, Option.some.injEq, Option.map_eq_some_iff] at hc
  obtain ⟨q, ⟨l, hl, rfl⟩, rfl⟩ := hc
  obtain ⟨ti, z, hti, hz, hlen, hr⟩ := zeroCels_ok (K := ctx E w μ κ h n) hl
  simp only [step2, cellsOfArg, Arg.get, Option.bind_some, ofCells_flat] at hs
  simp only [Option.some.injEq, Prod.mk.injEq] at hs
  obtain ⟨rfl, rfl, rfl⟩ := hs
  obtain ⟨H1, F1, R1⟩ := box_core H e hlen hr
  refine ⟨_, _, _, .value (.pointer (some ⟨w.heap.size, 0, none⟩)), _, ?_, .inl rfl, H1, F1, fun x hx => by cases hx; exact R1⟩
  simp only [execOp, Instr.alloc, Sem.run_bind, zeroValue, run_typeInfo' hti, hz, Result.andThen_ok, Sem.run_pure, newVar, newRow, run_newObj]
  rfl

/-- elements that lie flat in a row -/
def Flat (K : Ctx) (sz : Nat) (es : List (List Cel)) (C : Array Value) : Prop :=
  es.length * sz ≤ C.size ∧ ∀ (i : Nat) (e : List Cel), es[i]? = some e → e.length = sz ∧ ∀ (j : Nat) (x : Cel), e[j]? = some x → RelC K x (C.getD (i * sz + j) undef)

omit H HE in
theorem mul_lt {i sz j m : Nat} (hi : i < m) (hj : j < sz) : i * sz + j < m * sz := by
  have : (i + 1) * sz ≤ m * sz := Nat.mul_le_mul_right _ hi
  rw [Nat.succ_mul] at this
  omega

omit H HE in
theorem fillE_ok {K : Ctx} {sz : Nat} : ∀ (ps : List (Nat × Value)) (l : List (Nat × List Cel)) (es r : List (List Cel)) (C : Array Value), ps.length = l.length →
    (∀ (k : Nat) p q, ps[k]? = some p → l[k]? = some q → p.1 = q.1 ∧ q.2.length = p.2.cells.size ∧ ∀ (i : Nat) (x : Cel), q.2[i]? = some x → RelC K x (p.2.cells.getD i undef)) →
    Flat K sz es C → fillE sz es l = some r → ∃ C', Instr.fill (fun i => some (i * sz, sz)) C ps = some C' ∧ C'.size = C.size ∧ Flat K sz r C' ∧ r.length = es.length := by
  intro ps
  induction ps with
  | nil =>
    intro l es r C hl _ hf hr
    have : l = [] := List.eq_nil_of_length_eq_zero (by simpa using hl.symm)
    subst this
    simp only [fillE, Option.some.injEq] at hr
    subst hr
    exact ⟨C, rfl, rfl, hf, rfl⟩
  | cons p ps ih =>
    intro l es r C hl hp hf hr
    cases l with
    | nil => simp at hl
    | cons q l =>
      obtain ⟨i, lq⟩ := q
      simp only [fillE] at hr
      split at hr
      · rename_i hc
        obtain ⟨h1, h2, h3⟩ := hp 0 p _ rfl rfl
        obtain ⟨pi, pv⟩ := p
        simp only at h1 h2 h3
        subst h1
        have hle : pi * sz + sz ≤ C.size := by
          have h4 : (pi + 1) * sz ≤ es.length * sz := Nat.mul_le_mul_right _ hc.2
          rw [Nat.succ_mul] at h4
          exact Nat.le_trans h4 hf.1
        have hfold : pv.cells.zipIdx.foldl (fun (cs : Array Value) p => cs.setIfInBounds (pi * sz + p.2) p.1) C = (pv.cells.toList.zipIdx 0).foldl (fun (cs : Array Value) p => cs.setIfInBounds (pi * sz + p.2) p.1) C := by
          rw [← Array.foldl_toList, Array.toList_zipIdx]
        obtain ⟨g1, g2⟩ := fold_set pv.cells.toList 0 (pi * sz) C (by rw [Array.length_toList, ← h2, hc.1]; omega)
        rw [Array.length_toList, ← h2, hc.1] at g2
        rw [← hfold] at g1 g2
        have hflat : Flat K sz (es.set pi lq) (pv.cells.zipIdx.foldl (fun (cs : Array Value) p => cs.setIfInBounds (pi * sz + p.2) p.1) C) := by
          refine ⟨by rw [g1, List.length_set]; exact hf.1, fun k e he => ?_⟩
          have hklt : k < es.length := by have := (List.getElem?_eq_some_iff.1 he).1; rwa [List.length_set] at this
          by_cases hk : k = pi
          · subst hk
            rw [List.getElem?_set_self hklt] at he
            cases he
            refine ⟨hc.1, fun j x hj => ?_⟩
            have hjl : j < sz := by rw [← hc.1]; exact (List.getElem?_eq_some_iff.1 hj).1
            have := g2 (k * sz + j)
            rw [if_pos (by omega)] at this
            rw [getD_of (v := pv.cells.getD j undef)]
            · exact h3 j x hj
            · rw [this, Array.getElem?_toList, show k * sz + j - (k * sz + 0) = j by omega]
              exact get_of_getD (by rw [← h2, hc.1]; exact hjl)
          · rw [List.getElem?_set_ne (Ne.symm hk)] at he
            obtain ⟨e1, e2⟩ := hf.2 k e he
            refine ⟨e1, fun j x hj => ?_⟩
            have hjl : j < sz := by rw [← e1]; exact (List.getElem?_eq_some_iff.1 hj).1
            have hkj : k * sz + j < C.size := Nat.lt_of_lt_of_le (mul_lt hklt hjl) hf.1
            have hne : ¬ (pi * sz + 0 ≤ k * sz + j ∧ k * sz + j < pi * sz + 0 + sz) := by
              rintro ⟨q1, q2⟩
              rcases Nat.lt_or_gt_of_ne hk with hlt | hgt
              · have : (k + 1) * sz ≤ pi * sz := Nat.mul_le_mul_right _ hlt
                rw [Nat.succ_mul] at this
                omega
              · have : (pi + 1) * sz ≤ k * sz := Nat.mul_le_mul_right _ hgt
                rw [Nat.succ_mul] at this
                omega
            have := g2 (k * sz + j)
            rw [if_neg hne] at this
            rw [getD_of (v := C.getD (k * sz + j) undef) (by rw [this]; exact get_of_getD hkj)]
            exact e2 j x hj
        obtain ⟨C', e1, e2, e3, e4⟩ := ih l _ r _ (by simpa using hl) (fun k p' q' hk hk' => hp (k + 1) p' q' (by simpa using hk) (by simpa using hk')) hflat hr
        refine ⟨C', ?_, by rw [e2, g1], e3, by rw [e4, List.length_set]⟩
        simp only [Instr.fill]
        rw [if_neg]
        · exact e1
        · rw [← h2, hc.1]
          simp
          omega
      · cases hr

omit H HE in
theorem flat_zero {K : Ctx} {z : List Cel} {zv : Array Value} (len : Nat) (hz : z.length = zv.size) (hr : ∀ (j : Nat) (x : Cel), z[j]? = some x → RelC K x (zv.getD j undef)) :
    Flat K z.length (List.replicate len z) ((Array.range (len * z.length)).map (zv[· % zv.size]!)) := by
  refine ⟨by simp, fun i e he => ?_⟩
  rw [List.getElem?_replicate] at he
  split at he
  · rename_i hi
    simp only [Option.some.injEq] at he
    subst he
    refine ⟨rfl, fun j x hj => ?_⟩
    have hjl : j < z.length := (List.getElem?_eq_some_iff.1 hj).1
    have hlt := mul_lt hi hjl
    rw [getD_of (v := zv.getD j undef)]
    · exact hr j x hj
    · rw [Array.getElem?_map, Array.getElem?_range, if_pos hlt]
      simp only [Option.map_some, Option.some.injEq]
      rw [hz] at hjl ⊢
      rw [Nat.mul_comm, Nat.mul_add_mod, Nat.mod_eq_of_lt hjl]
      simp [Array.getD, hjl, getElem!_pos]
  · cases he

omit H HE in
theorem own_new {sz len m c : Nat} {es : List (List Cel)} {w' : World} (hl : len ≤ m) (hm : m ≤ c) (cap : Nat) (hcap : cap = c) :
    RelC (ctx E w' (upd μ n w.heap.size) (upd κ n c) (upd h n (some (.cells sz es))) (n + 1)) (.own n sz 0 len m) (.slice (some ⟨w.heap.size, 0, none⟩) len cap) := by
  have := RelC.own (K := ctx E w' (upd μ n w.heap.size) (upd κ n c) (upd h n (some (.cells sz es))) (n + 1)) (b := n) (sz := sz) (off := 0) (len := len) (m := m) (cap := cap) (o := 0) (Nat.lt_succ_self n) hl (by omega) (.inl (by simp)) (by
    show 0 + cap ≤ upd κ n c n
    rw [upd_same]; omega)
  rwa [show (ctx E w' (upd μ n w.heap.size) (upd κ n c) (upd h n (some (.cells sz es))) (n + 1)).μ n = w.heap.size from upd_same _ _ _] at this

theorem bslice_ok {t : TypeId} {len : Nat} {parts : Array (Nat × Operand)} (hc : compOp P ⟨dst, .buildSlice t len parts, type, pos, after, guard⟩ = some ao) (hs : step2 Γ ⟨env, h, n⟩ ao = some (v, h', n')) :
    Did P Γ E w μ κ h n a ⟨dst, .buildSlice t len parts, type, pos, after, guard⟩ v h' n' := by
  simp only [compOp, bind, Option.bind_eq_some_iff] at hc
  obtain ⟨e, he, sz, hsz, z, hz, ps, hps, hc⟩ := hc
  split at hc
  · rename_i hcond
    obtain ⟨hzl, hn0, hbig, hall⟩ := hcond
    simp only [Option.some.injEq] at hc
    subst hc
    obtain ⟨ti, zv, hti, hzv, hlen, hr⟩ := zeroCels_ok (K := ctx E w μ κ h n) hz
    simp only [step2, bind, Option.bind_eq_some_iff, Option.some.injEq, Prod.mk.injEq] at hs
    obtain ⟨l, hl, es, hes, rfl, rfl, rfl⟩ := hs
    have hu : P.underlying t = some (.slice e) := by
      unfold elemT at he
      split at he
      · simp only [Option.some.injEq] at he; subst he; assumption
      · cases he
    have hparts : (parts.map fun (p : Nat × Operand) => (p.1, a.eval p.2)).toList = parts.toList.map fun p => (p.1, a.eval p.2) := by simp
    have hgood : (parts.toList.map fun p => (p.1, a.eval p.2)).length = l.length ∧ ∀ (k : Nat) p q, (parts.toList.map fun p => (p.1, a.eval p.2))[k]? = some p → l[k]? = some q →
        p.1 = q.1 ∧ q.2.length = p.2.cells.size ∧ ∀ (i : Nat) (x : Cel), q.2[i]? = some x → RelC (ctx E w μ κ h n) x (p.2.cells.getD i undef) := by
      obtain ⟨h1, h2⟩ := mapM_get hps
      obtain ⟨h3, h4⟩ := mapM_get hl
      refine ⟨by simp; rw [h3, h1]; simp, fun k p q hp hq => ?_⟩
      rw [List.getElem?_map] at hp
      obtain ⟨p0, hp0, rfl⟩ := Option.map_eq_some_iff.1 hp
      obtain ⟨b, hb, hgb⟩ := h2 k p0 hp0
      obtain ⟨q', hq', hf⟩ := h4 k b hb
      rw [hq] at hq'
      cases hq'
      simp only [Option.bind_eq_some_iff, Option.some.injEq] at hgb
      obtain ⟨y, hy, rfl⟩ := hgb
      obtain ⟨lq, hlq, rfl⟩ := Option.map_eq_some_iff.1 hf
      have := cells_ok H HE hy hlq
      exact ⟨rfl, this.1, this.2⟩
    have hf0 := flat_zero (K := ctx E w μ κ h n) len hlen hr
    rw [hzl] at hf0
    obtain ⟨C', e1, e2, e3, e4⟩ := fillE_ok _ _ _ _ _ hgood.1 hgood.2 hf0 hes
    rw [List.length_replicate] at e4
    obtain ⟨H1, F1⟩ := new_row H C' e (0, 0) sz es len (Fz.plain _ _ _ (Nat.le_trans (Nat.le_mul_of_pos_right _ (Nat.pos_of_ne_zero hn0)) (Nat.le_trans hbig (by unfold maxLen; omega)))) (by omega) (by rw [← e4]; exact e3.1) (fun i x hx => ⟨(e3.2 i x hx).1, fun j y hy => by
      have hlt : i * sz + j < C'.size := Nat.lt_of_lt_of_le (mul_lt (List.getElem?_eq_some_iff.1 hx).1 (by rw [← (e3.2 i x hx).1]; exact (List.getElem?_eq_some_iff.1 hy).1)) e3.1
      exact ⟨_, get_of_getD hlt, (e3.2 i x hx).2 j y hy⟩⟩)
    refine ⟨_, _, _, .value (.slice (some ⟨w.heap.size, 0, none⟩) len len), _, ?_, .inl rfl, H1, F1, fun x hx => by cases hx; exact .c (own_new (Nat.le_refl _) (Nat.le_refl _) len rfl)⟩
    have hbig' : ¬ (len * sz > 2 ^ 24) := by omega
    simp only [execOp, Instr.buildSlice, Sem.run_bind, run_underlying hu, Result.andThen_ok, run_sizeOf' hsz, if_neg hbig', Sem.run_pure, hparts]
    have e1' : ∀ zz : Array Value, (len * sz ≠ 0 → zz = zv.cells) → Instr.fill (fun i => some (i * sz, sz)) ((Array.range (len * sz)).map fun x => zz[x % zz.size]!) (parts.toList.map fun p => (p.1, a.eval p.2)) = some C' := by
      intro zz hzz
      rw [← e1]
      congr 1
      by_cases h0 : len * sz = 0
      · rw [h0]; simp [Array.range]
      · rw [hzz h0]
    split
    · rename_i h0
      simp only [Sem.run_bind, Sem.run_pure, Result.andThen_ok]
      rw [e1' #[] (fun h1 => absurd h0 h1)]
      simp only [newRow, Sem.run_bind, run_newObj, Result.andThen_ok, Sem.run_pure]
      rfl
    · simp only [Sem.run_bind, zeroValue, run_typeInfo' hti, hzv, Result.andThen_ok, Sem.run_pure]
      rw [e1' zv.cells (fun _ => rfl)]
      simp only [newRow, Sem.run_bind, run_newObj, Result.andThen_ok, Sem.run_pure]
      rfl
  · cases hc
end
end Go.Proofs.YtolmbcngghkfiaaDoorBv
