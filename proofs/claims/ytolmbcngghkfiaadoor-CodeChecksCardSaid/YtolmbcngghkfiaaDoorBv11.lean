/- The calculus: stores, bytes, make, append, copy. It proves nothing of any program. -/
import Derived.Test.YtolmbcngghkfiaaDoorBv10
import Derived.IntWalk
namespace Go.Proofs.YtolmbcngghkfiaaDoorBv
open Go
set_option linter.unusedVariables false
set_option linter.unusedSimpArgs false

theorem one_oneCell {v : Value} (h : one v = true) : v.oneCell' = true := by cases v <;> simp_all [one, Value.oneCell']

section
variable {P : Program} {Γ : Glob} {E : Nat → Prop} {w : World} {μ κ : Nat → Nat} {h : Heap} {n : Nat} {env : Nat → Option AV} {a : Act}
  {dst : Option Tmp} {type : TypeId} {pos : String} {after : Array Edge} {guard : Option (Nat × Bool)} {ao : AOp} {v : Option AV} {h' : Heap} {n' : Nat}

/-- elements that stand one behind the other from element 'p' on are written over -/
theorem write_row (H : HeapOK Γ E w μ κ h n) {b sz : Nat} {es : List (List Cel)} (hb : h b = some (.cells sz es)) (p : Nat) (news : List (List Cel)) (vs : List Value)
    (hp : p ≤ es.length) (hfit : p + news.length ≤ κ b) (hvl : vs.length = news.length * sz)
    (hn : ∀ (i : Nat) (e : List Cel), news[i]? = some e → e.length = sz ∧ ∀ (j : Nat) (x : Cel), e[j]? = some x → RelC (ctx E w μ κ h n) x (vs.getD (i * sz + j) undef)) :
    HeapOK Γ E (w.setCells (μ b) (p * sz) vs) μ κ (upd h b (some (.cells sz (es.take p ++ news ++ es.drop (p + news.length))))) n ∧
    From E (ctx E w μ κ h n) (ctx E (w.setCells (μ b) (p * sz) vs) μ κ (upd h b (some (.cells sz (es.take p ++ news ++ es.drop (p + news.length))))) n) := by
  obtain ⟨C, t, fr, hC, hfr, hle, hsz, hes⟩ := H.blk b _ hb
  have hCw : w.heap[μ b]? = some (.cells C t fr) := hC
  have hbound : p * sz + vs.length ≤ C.size := by
    rw [hvl, ← Nat.add_mul]
    exact Nat.le_trans (Nat.mul_le_mul_right _ hfit) hsz
  obtain ⟨h1, h2, h3, h4, h5, C', h6, h7, h8⟩ := setCells_heap vs (p * sz) w C hCw hbound
  refine H.write hb h1 h2 h3 h4 h5 ?_
  have L : Ctx.Le (ctx E w μ κ h n) (ctx E (w.setCells (μ b) (p * sz) vs) μ κ (upd h b (some (.cells sz (es.take p ++ news ++ es.drop (p + news.length))))) n) := by
    refine ⟨Nat.le_refl _, fun _ _ => rfl, fun _ _ => rfl, fun k hk => ⟨by rw [h1]; exact hk.1, hk.2.1, fun b' y hb' => ?_⟩, fun k hk => h5 k (Ne.symm (hk.2.2 b _ hb))⟩
    by_cases e : b' = b
    · subst e; exact hk.2.2 b' _ hb
    · rw [upd_ne _ _ e] at hb'; exact hk.2.2 b' y hb'
  refine ⟨C', t, fr, h6, by rw [h7]; exact hfr, ?_, by rw [h7]; exact hsz, fun i e he => ?_⟩
  · show (es.take p ++ news ++ es.drop (p + news.length)).length ≤ κ b
    simp only [List.length_append, List.length_take, List.length_drop]
    have : es.length ≤ κ b := hle
    omega
  · by_cases c1 : i < p
    · rw [List.append_assoc, List.getElem?_append_left (by simp; omega), List.getElem?_take_of_lt c1] at he
      obtain ⟨e1, e2⟩ := hes i e he
      refine ⟨e1, fun j x hj => ?_⟩
      obtain ⟨u, hu, hr⟩ := e2 j x hj
      refine ⟨u, ?_, hr.mono L⟩
      have hjl : j < sz := by rw [← e1]; exact (List.getElem?_eq_some_iff.1 hj).1
      have : i * sz + j < p * sz := mul_lt c1 hjl
      rw [h8, if_neg (by omega)]
      exact hu
    · by_cases c2 : i < p + news.length
      · rw [List.append_assoc, List.getElem?_append_right (by simp; omega), List.getElem?_append_left (by simp; omega)] at he
        have ee : i - (es.take p).length = i - p := by simp; omega
        rw [ee] at he
        obtain ⟨e1, e2⟩ := hn (i - p) e he
        refine ⟨e1, fun j x hj => ?_⟩
        have hjl : j < sz := by rw [← e1]; exact (List.getElem?_eq_some_iff.1 hj).1
        have hlt : (i - p) * sz + j < news.length * sz := mul_lt (by omega) hjl
        have hi : i * sz + j = p * sz + ((i - p) * sz + j) := by rw [← Nat.add_assoc, ← Nat.add_mul]; congr 2; omega
        refine ⟨vs.getD ((i - p) * sz + j) undef, ?_, (e2 j x hj).mono L⟩
        rw [h8, if_pos (by omega), hi, Nat.add_sub_cancel_left]
        simp [List.getD, List.getElem?_eq_getElem (show (i - p) * sz + j < vs.length by omega)]
      · rw [List.getElem?_append_right (by simp; omega), List.getElem?_drop] at he
        have hil : i < es.length := by
          rcases Nat.lt_or_ge i es.length with h | h
          · exact h
          · rw [List.getElem?_eq_none (by simp; omega)] at he; cases he
        have ee : p + news.length + (i - (es.take p ++ news).length) = i := by simp; omega
        rw [ee] at he
        obtain ⟨e1, e2⟩ := hes i e he
        refine ⟨e1, fun j x hj => ?_⟩
        obtain ⟨u, hu, hr⟩ := e2 j x hj
        refine ⟨u, ?_, hr.mono L⟩
        have : (p + news.length) * sz ≤ i * sz := Nat.mul_le_mul_right _ (by omega)
        rw [Nat.add_mul] at this
        rw [h8, if_neg (by omega)]
        exact hu

variable (H : HeapOK Γ E w μ κ h n) (HE : EnvOK (ctx E w μ κ h n) env a)
include H HE

theorem store_ok {t : TypeId} {p x : Operand} (hc : compOp P ⟨dst, .store t p x, type, pos, after, guard⟩ = some ao) (hs : step2 Γ ⟨env, h, n⟩ ao = some (v, h', n')) :
    Did P Γ E w μ κ h n a ⟨dst, .store t p x, type, pos, after, guard⟩ v h' n' := by
  simp only [compOp, bind, Option.bind_eq_some_iff, Option.some.injEq] at hc
  obtain ⟨m, hm, p', hp, x', hx, rfl⟩ := hc
  simp only [step2] at hs
  split at hs
  · rename_i b sz i j l hg hl
    split at hs
    · rename_i s es hb
      split at hs
      · rename_i e hi
        split at hs
        · rename_i hcond
          obtain ⟨rfl, hlm, hjm⟩ := hcond
          simp only [Option.some.injEq, Prod.mk.injEq] at hs
          obtain ⟨rfl, rfl, rfl⟩ := hs
          obtain ⟨hbn, he⟩ := relC_ref (relV_c (arg_ok H HE hp hg))
          obtain ⟨c1, c2⟩ := cells_ok H HE hx hl
          obtain ⟨C, tt, fr, hC, hfr, hle, hsz, hes⟩ := H.blk b _ hb
          have hCw : w.heap[μ b]? = some (.cells C tt fr) := hC
          have hil : i < es.length := (List.getElem?_eq_some_iff.1 hi).1
          obtain ⟨el, ecell⟩ := hes i e hi
          have hbd : (i + 1) * s ≤ C.size := Nat.le_trans (Nat.mul_le_mul_right _ (Nat.le_trans hil hle)) hsz
          rw [Nat.succ_mul] at hbd
          have hvl : (a.eval x).cells.toList.length = m := by rw [Array.length_toList, ← c1, hlm]
          obtain ⟨h1, h2, h3, h4, h5, C', h6, h7, h8⟩ := setCells_heap (a.eval x).cells.toList (i * s + j) w C hCw (by rw [hvl]; omega)
          have hones : ∀ u ∈ (a.eval x).cells.toList, u.oneCell' = true := by
            intro u hu
            obtain ⟨k, hk, rfl⟩ := List.getElem_of_mem hu
            have hkl : k < l.length := by rw [hlm, ← hvl]; exact hk
            have := (c2 k _ (List.getElem?_eq_getElem hkl)).one
            rw [getD_of (v := (a.eval x).cells.toList[k]) (by rw [← Array.getElem?_toList]; exact List.getElem?_eq_getElem hk)] at this
            exact one_oneCell this
          have hrun := run_storeCells_cells (P := P) (μ b) (i * s + j) (a.eval x).cells.toList 0 w (fun k hk => by
              rw [Nat.add_zero, block_cell hCw, get_of_getD (by omega)]; rfl) (fun k hk => by
              rw [Nat.add_zero]; exact block_free hCw hfr.1 _ (by omega)) hones
          rw [Nat.add_zero] at hrun
          have hw := H.write (w' := w.setCells (μ b) (i * s + j) (a.eval x).cells.toList) (x' := .cells s (es.set i (e.take j ++ l ++ e.drop (j + m)))) hb h1 h2 h3 h4 h5 (by
            have L : Ctx.Le (ctx E w μ κ h n) (ctx E (w.setCells (μ b) (i * s + j) (a.eval x).cells.toList) μ κ (upd h b (some (.cells s (es.set i (e.take j ++ l ++ e.drop (j + m)))))) n) := by
              refine ⟨Nat.le_refl _, fun _ _ => rfl, fun _ _ => rfl, fun k hk => ⟨by rw [h1]; exact hk.1, hk.2.1, fun b' y hb' => ?_⟩, fun k hk => h5 k (Ne.symm (hk.2.2 b _ hb))⟩
              by_cases e : b' = b
              · subst e; exact hk.2.2 b' _ hb
              · rw [upd_ne _ _ e] at hb'; exact hk.2.2 b' y hb'
            refine ⟨C', tt, fr, h6, by rw [h7]; exact hfr, by rw [List.length_set]; exact hle, by rw [h7]; exact hsz, fun k q hq => ?_⟩
            rw [hvl] at h8
            by_cases hk : k = i
            · subst hk
              rw [List.getElem?_set_self hil] at hq
              cases hq
              refine ⟨by simp [el]; omega, fun z y hz => ?_⟩
              by_cases d1 : z < j
              · rw [List.append_assoc, List.getElem?_append_left (by simp; omega), List.getElem?_take_of_lt d1] at hz
                obtain ⟨u, hu, hr⟩ := ecell z y hz
                exact ⟨u, by rw [h8, if_neg (by omega)]; exact hu, hr.mono L⟩
              · by_cases d2 : z < j + m
                · rw [List.append_assoc, List.getElem?_append_right (by simp; omega), List.getElem?_append_left (by simp; omega)] at hz
                  have ee : z - (e.take j).length = z - j := by simp; omega
                  rw [ee] at hz
                  refine ⟨(a.eval x).cells.getD (z - j) undef, ?_, (c2 _ y hz).mono L⟩
                  rw [h8, if_pos (by omega), show k * s + z - (k * s + j) = z - j by omega, Array.getElem?_toList]
                  exact get_of_getD (by rw [← c1, hlm]; omega)
                · rw [List.getElem?_append_right (by simp; omega), List.getElem?_drop] at hz
                  have ee : j + m + (z - (e.take j ++ l).length) = z := by simp; omega
                  rw [ee] at hz
                  obtain ⟨u, hu, hr⟩ := ecell z y hz
                  exact ⟨u, by rw [h8, if_neg (by omega)]; exact hu, hr.mono L⟩
            · rw [List.getElem?_set_ne (Ne.symm hk)] at hq
              obtain ⟨e1, e2⟩ := hes k q hq
              refine ⟨e1, fun z x hz => ?_⟩
              obtain ⟨u, hu, hr⟩ := e2 z x hz
              have hzl : z < s := by rw [← e1]; exact (List.getElem?_eq_some_iff.1 hz).1
              refine ⟨u, ?_, hr.mono L⟩
              rw [h8, if_neg]
              · exact hu
              · rintro ⟨q1, q2⟩
                rcases Nat.lt_or_gt_of_ne hk with hlt | hgt
                · have : (k + 1) * s ≤ i * s := Nat.mul_le_mul_right _ hlt
                  rw [Nat.succ_mul] at this
                  omega
                · have : (i + 1) * s ≤ k * s := Nat.mul_le_mul_right _ hgt
                  rw [Nat.succ_mul] at this
                  omega)
          refine ⟨_, _, _, .skip, undef, ?_, .inr ⟨rfl, rfl⟩, hw.1, hw.2, fun x hx => by cases hx⟩
          have hsv : (storeVar t ⟨μ b, i * s + j, none⟩ (a.eval x)).run P w = .ok () (w.setCells (μ b) (i * s + j) (a.eval x).cells.toList) := by
            unfold storeVar
            simp only [Sem.run_bind, run_sizeOf' hm, Result.andThen_ok]
            rw [if_neg (by rw [← c1, hlm]; simp)]
            exact hrun
          simp only [execOp, he, Instr.storeAt, Instr.sureAddr, Sem.run_bind, Sem.run_pure, Result.andThen_ok]
          rw [show (ctx E w μ κ h n).μ b = μ b from rfl, hsv]
          rfl
        · cases hs
      · cases hs
    · cases hs
  · cases hs

/-- a store changes one block -/
theorem store_frame {t : TypeId} {p x : Operand} (hc : compOp P ⟨dst, .store t p x, type, pos, after, guard⟩ = some ao) (hs : step2 Γ ⟨env, h, n⟩ ao = some (v, h', n')) :
    ∃ (blk off : Nat) (w' : World), a.eval p = .pointer (some ⟨blk, off, none⟩) ∧ (execOp a.eval ⟨dst, .store t p x, type, pos, after, guard⟩).run P w = .ok .skip w' ∧ w'.heap.size = w.heap.size ∧ ∀ k, k ≠ blk → w'.heap[k]? = w.heap[k]? := by
  simp only [compOp, bind, Option.bind_eq_some_iff, Option.some.injEq] at hc
  obtain ⟨m, hm, p', hp, x', hx, rfl⟩ := hc
  simp only [step2] at hs
  split at hs
  · rename_i b sz i j l hg hl
    split at hs
    · rename_i s es hb
      split at hs
      · rename_i e hi
        split at hs
        · rename_i hcond
          obtain ⟨rfl, hlm, hjm⟩ := hcond
          obtain ⟨hbn, he⟩ := relC_ref (relV_c (arg_ok H HE hp hg))
          obtain ⟨c1, c2⟩ := cells_ok H HE hx hl
          obtain ⟨C, tt, fr, hC, hfr, hle, hsz, hes⟩ := H.blk b _ hb
          have hCw : w.heap[μ b]? = some (.cells C tt fr) := hC
          have hil : i < es.length := (List.getElem?_eq_some_iff.1 hi).1
          obtain ⟨el, ecell⟩ := hes i e hi
          have hbd : (i + 1) * s ≤ C.size := Nat.le_trans (Nat.mul_le_mul_right _ (Nat.le_trans hil hle)) hsz
          rw [Nat.succ_mul] at hbd
          have hvl : (a.eval x).cells.toList.length = m := by rw [Array.length_toList, ← c1, hlm]
          obtain ⟨h1, h2, h3, h4, h5, C', h6, h7, h8⟩ := setCells_heap (a.eval x).cells.toList (i * s + j) w C hCw (by rw [hvl]; omega)
          have hones : ∀ u ∈ (a.eval x).cells.toList, u.oneCell' = true := by
            intro u hu
            obtain ⟨k, hk, rfl⟩ := List.getElem_of_mem hu
            have hkl : k < l.length := by rw [hlm, ← hvl]; exact hk
            have := (c2 k _ (List.getElem?_eq_getElem hkl)).one
            rw [getD_of (v := (a.eval x).cells.toList[k]) (by rw [← Array.getElem?_toList]; exact List.getElem?_eq_getElem hk)] at this
            exact one_oneCell this
          have hrun := run_storeCells_cells (P := P) (μ b) (i * s + j) (a.eval x).cells.toList 0 w (fun k hk => by
              rw [Nat.add_zero, block_cell hCw, get_of_getD (by omega)]; rfl) (fun k hk => by
              rw [Nat.add_zero]; exact block_free hCw hfr.1 _ (by omega)) hones
          rw [Nat.add_zero] at hrun
          refine ⟨μ b, i * s + j, _, he, ?_, h1, h5⟩
          have hsv : (storeVar t ⟨μ b, i * s + j, none⟩ (a.eval x)).run P w = .ok () (w.setCells (μ b) (i * s + j) (a.eval x).cells.toList) := by
            unfold storeVar
            simp only [Sem.run_bind, run_sizeOf' hm, Result.andThen_ok]
            rw [if_neg (by rw [← c1, hlm]; simp)]
            exact hrun
          simp only [execOp, he, Instr.storeAt, Instr.sureAddr, Sem.run_bind, Sem.run_pure, Result.andThen_ok]
          rw [show (ctx E w μ κ h n).μ b = μ b from rfl, hsv]
          rfl
        · cases hs
      · cases hs
    · cases hs
  · cases hs

theorem mksl_ok {t : TypeId} {l c : Operand} (hc : compOp P ⟨dst, .makeSlice t l c, type, pos, after, guard⟩ = some ao) (hs : step2 Γ ⟨env, h, n⟩ ao = some (v, h', n')) :
    Did P Γ E w μ κ h n a ⟨dst, .makeSlice t l c, type, pos, after, guard⟩ v h' n' := by
  simp only [compOp, bind, Option.bind_eq_some_iff] at hc
  obtain ⟨e, he, ti, hti, z, hz, hc⟩ := hc
  split at hc
  · rename_i hcond
    simp only [Option.bind_eq_some_iff, Option.some.injEq] at hc
    obtain ⟨l', hl, c', hcc, rfl⟩ := hc
    obtain ⟨ti', zv, hti', hzv, hlen, hr⟩ := zeroCels_ok (K := ctx E w μ κ h n) hz
    rw [hti] at hti'
    cases hti'
    have hu : P.underlying t = some (.slice e) := by
      unfold elemT at he
      split at he
      · simp only [Option.some.injEq] at he; subst he; assumption
      · cases he
    simp only [step2] at hs
    split at hs
    · rename_i p q hp hq
      split at hs
      · rename_i hb
        obtain ⟨b0, b1, b2, b3⟩ := hb
        simp only [Option.some.injEq, Prod.mk.injEq] at hs
        obtain ⟨rfl, rfl, rfl⟩ := hs
        obtain ⟨k1, e1⟩ := getI_ok H HE hl hp
        obtain ⟨k2, e2⟩ := getI_ok H HE hcc hq
        have hf0 := flat_zero (K := ctx E w μ κ h n) q.toNat hlen hr
        rw [hcond.1] at hf0
        obtain ⟨H1, F1⟩ := new_row H ((Array.range (q.toNat * ti.size)).map (zv.cells[· % zv.cells.size]!)) e (0, 0) ti.size (List.replicate q.toNat z) q.toNat (Fz.plain _ _ _ (by unfold maxLen; omega)) (by simp) (by simp) (fun i x hx => ⟨(hf0.2 i x hx).1, fun j y hy => by
          have hlt : i * ti.size + j < ((Array.range (q.toNat * ti.size)).map (zv.cells[· % zv.cells.size]!)).size := Nat.lt_of_lt_of_le (mul_lt (List.getElem?_eq_some_iff.1 hx).1 (by rw [← (hf0.2 i x hx).1]; exact (List.getElem?_eq_some_iff.1 hy).1)) hf0.1
          exact ⟨_, get_of_getD hlt, (hf0.2 i x hx).2 j y hy⟩⟩)
        refine ⟨_, _, _, .value (.slice (some ⟨w.heap.size, 0, none⟩) p.toNat q.toNat), _, ?_, .inl rfl, H1, F1, fun x hx => by cases hx; exact .c (own_new (by omega) (Nat.le_refl _) q.toNat rfl)⟩
        have w1 : IntKind.i64.wrap p = p := IntWalk.i64_in _ (by omega)
        have w2 : IntKind.i64.wrap q = q := IntWalk.i64_in _ (by omega)
        have hbytes : (ti.bytes : Int) * q ≤ 281474976710656 := by
          have : (ti.bytes : Int) * q = ((q.toNat * ti.bytes : Nat) : Int) := by
            rw [Nat.mul_comm]; push_cast; rw [Int.toNat_of_nonneg (by omega)]
          rw [this]
          omega
        have hlarge : (decide (q < 0) || decide ((ti.bytes : Int) * q > 2 ^ 48)) = false := by simp; omega
        have hcheck : (decide (q < 0) || decide ((ti.bytes : Int) * q > 2 ^ 48) || decide (p < 0) || decide (p > q)) = false := by simp; omega
        simp only [execOp, Instr.makeSlice, Sem.run_bind, run_underlying hu, Result.andThen_ok, e1, e2, asInt, asIntOf, Sem.run_pure, run_typeInfo' hti, w1, w2]
        have hsz : sizeT P e = some ti.size := by simp [sizeT, hti]
        rw [hcheck]
        simp only [Bool.false_eq_true, if_false, Sem.run_bind, run_askRoom, Result.andThen_ok, run_sizeOf' hsz]
        split
        · rename_i h0
          simp only [Sem.run_bind, Sem.run_pure, Result.andThen_ok, newRow, run_newObj]
          have : ((Array.range (q.toNat * ti.size)).map fun x => (#[] : Array Value)[x % (#[] : Array Value).size]!) = (Array.range (q.toNat * ti.size)).map fun x => zv.cells[x % zv.cells.size]! := by
            rw [h0]; simp [Array.range]
          rw [this]
          rfl
        · simp only [Sem.run_bind, zeroValue, run_typeInfo' hti, hzv, Result.andThen_ok, Sem.run_pure, newRow, run_newObj]
          rfl
      · cases hs
    · cases hs
  · cases hc

omit H HE in
theorem frozen_after {w : World} {C : Array Value} {e : TypeId} {k : Nat} : ((w.alloc (.cells C e)).freeze { block := w.heap.size, off := k } 1).heap.size = w.heap.size + 1 := by
  unfold World.freeze
  rw [if_neg (by decide)]
  simp

omit H HE in
theorem alloc_freeze (w : World) (C : Array Value) (e : TypeId) (k : Nat) : (w.alloc (.cells C e)).freeze { block := w.heap.size, off := k } 1 = w.alloc (.cells C e (k, k + 1)) := by
  unfold World.freeze World.alloc
  rw [if_neg (by decide)]
  congr 1
  apply Array.ext_getElem?
  intro i
  rw [Array.getElem?_modify, Array.getElem?_push, Array.getElem?_push]
  by_cases h : w.heap.size = i
  · subst h
    simp
  · rw [if_neg h, if_neg (by omega), if_neg (by omega)]

/-- a text's bytes as a row -/
def bytesRow (l : List UInt8) (cap : Nat) : Array Value := ((⟨l.toArray⟩ : ByteArray).data.map fun b : UInt8 => Value.int .u8 (b.toNat : Int)) ++ Array.replicate (cap - l.length) (Value.int .u8 0)

omit H HE in
theorem bytesRow_get {l : List UInt8} {cap i : Nat} (hi : i < l.length) : (bytesRow l cap)[i]? = some (.int .u8 ((l.getD i 0).toNat)) := by
  unfold bytesRow
  rw [Array.getElem?_append_left (by simpa using hi), Array.getElem?_map]
  simp [List.getD, List.getElem?_eq_getElem hi]

omit H HE in
theorem bytesRow_size {l : List UInt8} {cap : Nat} (h : l.length ≤ cap) : (bytesRow l cap).size = cap := by simp [bytesRow]; omega

omit H HE in
theorem byteCels {K : Ctx} {l : List UInt8} {C : Array Value} (hC : ∀ i, i < l.length → C[i]? = some (.int .u8 ((l.getD i 0).toNat))) (i : Nat) (q : List Cel) (hq : (l.map byteCel)[i]? = some q) :
    q.length = 1 ∧ ∀ (j : Nat) (x : Cel), q[j]? = some x → ∃ v, C[i * 1 + j]? = some v ∧ RelC K x v := by
  rw [List.getElem?_map] at hq
  obtain ⟨b, hb, rfl⟩ := Option.map_eq_some_iff.1 hq
  have hi : i < l.length := (List.getElem?_eq_some_iff.1 hb).1
  refine ⟨rfl, fun j y hj => ?_⟩
  cases j with
  | zero =>
    simp only [byteCel, List.getElem?_cons_zero, Option.some.injEq] at hj
    subst hj
    refine ⟨.int .u8 ((l.getD i 0).toNat), by rw [Nat.mul_one, Nat.add_zero]; exact hC i hi, ?_⟩
    have : l.getD i 0 = b := by simp [List.getD, hb]
    rw [this]
    exact .val rfl
  | succ j => simp [byteCel] at hj

theorem toBytes_ok {s d e : TypeId} {x : Operand} {x' : Arg} (hu : P.underlying s = some .string) (hd : P.underlying d = some (.slice e)) (he8 : P.underlying e = some (.int .u8)) (hx : compArg P s x = some x')
    (hs : step2 Γ ⟨env, h, n⟩ (.toBytes x') = some (v, h', n')) : Did P Γ E w μ κ h n a ⟨dst, .convert s d x, type, pos, after, guard⟩ v h' n' := by
  simp only [step2] at hs
  split at hs
  · rename_i l hg
    simp only [Option.some.injEq, Prod.mk.injEq] at hs
    obtain ⟨rfl, rfl, rfl⟩ := hs
    have he := relC_str (relV_c (arg_ok H HE hx hg))
    obtain ⟨cap, hcap, hq⟩ : ∃ cap, l.length ≤ cap ∧ (choose (.appendCap l.length 0 e)).run P w = .ok cap w.drew := by
      refine ⟨l.length + (w.tape w.drawn (.appendCap l.length 0 e)) % (2 ^ 63 - l.length), by omega, ?_⟩
      simp [Question.forced, Question.cut]
    obtain ⟨H1, F1⟩ := drew_row H (bytesRow l cap) e (cap, cap + 1) 1 (l.map byteCel) cap ⟨fun i hi => by rw [bytesRow_size hcap] at hi; simp; omega, fun h => absurd rfl h⟩ (by simpa using hcap) (by rw [bytesRow_size hcap]; omega)
      (byteCels fun i hi => bytesRow_get hi)
    refine ⟨_, _, _, .value (.slice (some ⟨w.heap.size, 0, none⟩) l.length cap), _, ?_, .inl rfl, H1, F1, fun x hx => by cases hx; exact .c (own_new (Nat.le_refl _) hcap cap rfl)⟩
    simp only [execOp, he, convert, Sem.run_bind, run_underlying hu, run_underlying hd, run_underlying he8, Result.andThen_ok, Conv.stringToBytes]
    rw [show (⟨l.toArray⟩ : ByteArray).size = l.length from rfl, hq]
    simp only [Result.andThen_ok, newRow, Sem.run_bind, run_newObj, Sem.run_pure, markStringish, run_shape]
    have hshape : ({ w.drew with heap := w.drew.heap.push (.cells (bytesRow l cap) e) } : World).shape? w.drew.heap.size = some (e, cap) := by
      unfold World.shape?
      show (match (w.drew.heap.push (.cells (bytesRow l cap) e))[w.drew.heap.size]? with | some (Obj.cells c elem _) => some (elem, c.size) | _ => none) = _
      rw [Array.getElem?_push_size]
      simp only [bytesRow_size hcap]
    show ((Sem.run P (match (({ w.drew with heap := w.drew.heap.push (.cells (bytesRow l cap) e) } : World).shape? w.drew.heap.size) with | some (_, n) => freeze { block := w.drew.heap.size, off := n } 1 | x => pure ()) _).andThen fun a w' => Result.ok _ w').andThen _ = _
    rw [hshape]
    simp only [run_freeze, Result.andThen_ok]
    rw [← alloc_freeze]
    rfl
  · cases hs


/-! ### append and copy -/
omit H HE in
/-- what an append takes: elements of a slice -/
theorem src_of {sz : Nat} {es : List (List Cel)} {u : Value} {tx e' : TypeId} (hk : P.underlying tx = some (.slice e')) (hsl : SlOK (ctx E w μ κ h n) sz es u) :
    ∃ vs : List Value, Src P sz tx u es.length vs w ∧ ∀ (i : Nat) (e : List Cel), es[i]? = some e → e.length = sz ∧ ∀ (j : Nat) (x : Cel), e[j]? = some x → RelC (ctx E w μ κ h n) x (vs.getD (i * sz + j) undef) := by
  obtain ⟨A, cap, g, rfl, hc, hz, hcell⟩ := hsl
  cases A with
  | none =>
    have hl : es.length = 0 := by have := hz rfl; omega
    have : es = [] := List.eq_nil_of_length_eq_zero hl
    subst this
    exact ⟨[], Src.ofNil w hk cap, fun i e he => by simp at he⟩
  | some ad =>
    refine ⟨(List.range (es.length * sz)).map fun k => g (k / sz) (k % sz), Src.ofSlice w hk ad es.length cap _ (by simp) (fun k u hu => ?_) (fun u hu => ?_), fun i e he => ⟨(hcell i e he).1, fun j x hj => ?_⟩⟩
    · rw [List.getElem?_map] at hu
      obtain ⟨k', hk', rfl⟩ := Option.map_eq_some_iff.1 hu
      obtain ⟨hlt, rfl⟩ := List.getElem?_eq_some_iff.1 hk'
      simp only [List.length_range] at hlt
      simp only [List.getElem_range]
      have hsz : 0 < sz := by
        rcases Nat.eq_zero_or_pos sz with h0 | h0
        · subst h0; simp at hlt
        · exact h0
      have hi : k / sz < es.length := (Nat.div_lt_iff_lt_mul hsz).2 hlt
      have hj : k % sz < sz := Nat.mod_lt _ hsz
      obtain ⟨h1, h2⟩ := hcell _ _ (List.getElem?_eq_getElem hi)
      have := (h2 (k % sz) _ (List.getElem?_eq_getElem (by rw [h1]; exact hj))).1
      simp only [Option.bind_some] at this
      rwa [Nat.div_add_mod' k sz] at this
    · obtain ⟨k, hk, rfl⟩ := List.mem_map.1 hu
      have hlt : k < es.length * sz := by simpa using hk
      have hsz : 0 < sz := by
        rcases Nat.eq_zero_or_pos sz with h0 | h0
        · subst h0; simp at hlt
        · exact h0
      have hi : k / sz < es.length := (Nat.div_lt_iff_lt_mul hsz).2 hlt
      obtain ⟨h1, h2⟩ := hcell _ _ (List.getElem?_eq_getElem hi)
      exact one_oneCell (h2 (k % sz) _ (List.getElem?_eq_getElem (by rw [h1]; exact Nat.mod_lt _ hsz))).2.one
    · have hi : i < es.length := (List.getElem?_eq_some_iff.1 he).1
      have hjl : j < sz := by rw [← (hcell i e he).1]; exact (List.getElem?_eq_some_iff.1 hj).1
      have hlt := mul_lt hi hjl
      have : ((List.range (es.length * sz)).map fun k => g (k / sz) (k % sz)).getD (i * sz + j) undef = g i j := by
        simp only [List.getD, List.getElem?_map, List.getElem?_range hlt, Option.map_some, Option.getD_some]
        have h1 : (i * sz + j) / sz = i := by
          rw [Nat.mul_comm, Nat.mul_add_div (by omega), Nat.div_eq_of_lt hjl, Nat.add_zero]
        have h2 : (i * sz + j) % sz = j := by
          rw [Nat.mul_comm, Nat.mul_add_mod, Nat.mod_eq_of_lt hjl]
        rw [h1, h2]
      rw [this]
      exact ((hcell i e he).2 j x hj).2

omit H HE in
theorem grownCap_le (w : World) (need old : Nat) (e : TypeId) : need ≤ grownCap w need old e := by
  unfold grownCap
  simp only [Question.cut]
  omega

omit H HE in
theorem run_append_none {t tx e ty : TypeId} {ti : TypeInfo} {base : Option Addr} {sLen sCap : Nat} {u : Value} {vs : List Value} (hu : P.underlying t = some (.slice e)) (hti : P.info? e = some ti) (hsrc : Src P ti.size tx u 0 vs w) (hle : sLen ≤ sCap) :
    (Builtin.append_ #[t, tx] ty #[.slice base sLen sCap, u]).run P w = .ok (.slice base sLen sCap) w := by
  have hvs : vs = [] := by
    have := hsrc.newsLen
    rw [Nat.zero_mul] at this
    exact List.eq_nil_of_length_eq_zero this
  have hc := hsrc.cells
  rw [hvs] at hc
  rcases hsrc.kind with ⟨e', hk⟩ | hk <;> cases base <;> simp [Builtin.append_, run_underlying hu, run_underlying hk, sizeOf, typeInfo, hti, hsrc.len, hle, hc, storeCells]

omit HE in
/-- what is appended where there is no room: a new row -/
theorem grow_core {t tx e ty : TypeId} {ti : TypeInfo} {z : Value} {base : Option Addr} {sLen sCap : Nat} {u : Value} {olds news : List (List Cel)} {ovs vs : List Value} (hu : P.underlying t = some (.slice e)) (hti : P.info? e = some ti) (hz : ti.zero = some z) (hzs : z.cells.size = ti.size)
    (hb0 : ti.bytes ≠ 0) (hsrc : Src P ti.size tx u news.length vs w) (hold : (Builtin.firstCells ti.size sLen (.slice base sLen sCap)).run P w.drew = .ok ovs.toArray w.drew) (hol : olds.length = sLen) (hovl : ovs.length = sLen * ti.size)
    (ho : ∀ (i : Nat) (e : List Cel), olds[i]? = some e → e.length = ti.size ∧ ∀ (j : Nat) (x : Cel), e[j]? = some x → RelC (ctx E w μ κ h n) x (ovs.getD (i * ti.size + j) undef))
    (hn : ∀ (i : Nat) (e : List Cel), news[i]? = some e → e.length = ti.size ∧ ∀ (j : Nat) (x : Cel), e[j]? = some x → RelC (ctx E w μ κ h n) x (vs.getD (i * ti.size + j) undef))
    (hg : sCap < sLen + news.length) (hle : (sLen + news.length) * ti.bytes ≤ 140737488355328) :
    ∃ (w' : World) (μ' κ' : Nat → Nat) (cv : Value), (Builtin.append_ #[t, tx] ty #[.slice base sLen sCap, u]).run P w = .ok cv w' ∧ HeapOK Γ E w' μ' κ' (upd h n (some (.cells ti.size (olds ++ news)))) (n + 1) ∧
      From E (ctx E w μ κ h n) (ctx E w' μ' κ' (upd h n (some (.cells ti.size (olds ++ news)))) (n + 1)) ∧ RelV (ctx E w' μ' κ' (upd h n (some (.cells ti.size (olds ++ news)))) (n + 1)) (.c (.own n ti.size 0 (sLen + news.length) (sLen + news.length))) cv := by
  have hlen63 : ((sLen + news.length : Nat) : Int) ≤ 9223372036854775807 := by
    have : sLen + news.length ≤ (sLen + news.length) * ti.bytes := Nat.le_mul_of_pos_right _ (by omega)
    omega
  have run := run_append_grow_src (P := P) w t tx ty e ti z hu hti hz base sLen sCap ovs hold u news.length vs hsrc hg hlen63 (growslice_fits hg hle)
  have hgc := grownCap_le w (sLen + news.length) sCap e
  have hgm := grownCap_le_maxLen w (sLen + news.length) sCap e (by unfold maxLen; omega)
  generalize hcap : grownCap w (sLen + news.length) sCap e = cap at *
  have hsz : (((ovs ++ vs).toArray) ++ Builtin.zeroCells z.cells (cap - (sLen + news.length))).size = cap * ti.size := by
    simp only [Array.size_append, List.size_toArray, List.length_append, hsrc.newsLen, hovl, Builtin.zeroCells, Array.size_map, Array.size_range, hzs]
    rw [← Nat.add_mul, ← Nat.add_mul]
    congr 1
    omega
  obtain ⟨H1, F1⟩ := drew_row H ((ovs ++ vs).toArray ++ Builtin.zeroCells z.cells (cap - (sLen + news.length))) e (0, 0) ti.size (olds ++ news) cap (Fz.plain _ _ _ hgm) (by simp; omega) (by rw [hsz]; omega) (fun i q hq => by
    have hin : ∀ k, k < (ovs ++ vs).length → ((ovs ++ vs).toArray ++ Builtin.zeroCells z.cells (cap - (sLen + news.length)))[k]? = some ((ovs ++ vs).getD k undef) := by
      intro k hk
      rw [Array.getElem?_append_left (by simpa using hk)]
      simp only [List.getElem?_toArray, List.getD, List.getElem?_eq_getElem hk, Option.getD_some]
    by_cases c1 : i < olds.length
    · rw [List.getElem?_append_left c1] at hq
      refine ⟨(ho i q hq).1, fun j y hj => ?_⟩
      have hjl : j < ti.size := by rw [← (ho i q hq).1]; exact (List.getElem?_eq_some_iff.1 hj).1
      have hlt : i * ti.size + j < ovs.length := by rw [hovl, ← hol]; exact mul_lt c1 hjl
      refine ⟨_, hin _ (by rw [List.length_append]; omega), ?_⟩
      have : (ovs ++ vs).getD (i * ti.size + j) undef = ovs.getD (i * ti.size + j) undef := by
        simp only [List.getD, List.getElem?_append_left hlt]
      rw [this]
      exact (ho i q hq).2 j y hj
    · rw [List.getElem?_append_right (by omega)] at hq
      refine ⟨(hn _ q hq).1, fun j y hj => ?_⟩
      have hjl : j < ti.size := by rw [← (hn _ q hq).1]; exact (List.getElem?_eq_some_iff.1 hj).1
      have hlt : (i - olds.length) * ti.size + j < vs.length := by rw [hsrc.newsLen]; exact mul_lt (List.getElem?_eq_some_iff.1 hq).1 hjl
      have hi : i * ti.size + j = ovs.length + ((i - olds.length) * ti.size + j) := by
        rw [hovl, ← hol, ← Nat.add_assoc, ← Nat.add_mul]
        congr 2
        omega
      refine ⟨_, hin _ (by rw [List.length_append]; omega), ?_⟩
      have : (ovs ++ vs).getD (i * ti.size + j) undef = vs.getD ((i - olds.length) * ti.size + j) undef := by
        simp only [List.getD]
        rw [hi, List.getElem?_append_right (by omega), Nat.add_sub_cancel_left]
      rw [this]
      exact (hn _ q hq).2 j y hj)
  exact ⟨_, _, _, _, run, H1, F1, .c (own_new (Nat.le_refl _) hgc cap rfl)⟩

omit HE in
/-- a live block under a new name, told anew -/
theorem rename {b : Nat} {x x' : Blk} (hb : h b = some x) (hx : BlkRel (ctx E w μ κ h n) b x') :
    HeapOK Γ E w (upd μ n (μ b)) (upd κ n (κ b)) (upd (upd h b none) n (some x')) (n + 1) ∧
    From E (ctx E w μ κ h n) (ctx E w (upd μ n (μ b)) (upd κ n (κ b)) (upd (upd h b none) n (some x')) (n + 1)) := by
  have hbn := H.bound b x hb
  have old : ∀ b' y, b' ≠ n → upd (upd h b none) n (some x') b' = some y → h b' = some y ∧ b' ≠ b := by
    intro b' y e hb'
    rw [upd_ne _ _ e] at hb'
    by_cases e2 : b' = b
    · subst e2; rw [upd_same] at hb'; cases hb'
    · rw [upd_ne _ _ e2] at hb'; exact ⟨hb', e2⟩
  have F : From E (ctx E w μ κ h n) (ctx E w (upd μ n (μ b)) (upd κ n (κ b)) (upd (upd h b none) n (some x')) (n + 1)) := by
    refine ⟨⟨Nat.le_succ _, fun b' hb' => upd_ne _ _ (Nat.ne_of_lt hb'), fun b' hb' => upd_ne _ _ (Nat.ne_of_lt hb'), fun k hk => ⟨hk.1, hk.2.1, ?_⟩, fun _ _ => rfl⟩, Nat.le_refl _, rfl, rfl, rfl, fun _ _ _ => rfl⟩
    intro b' y hb'
    by_cases e : b' = n
    · subst e; show upd μ b' (μ b) b' ≠ k; rw [upd_same]; exact hk.2.2 b x hb
    · show upd μ n (μ b) b' ≠ k
      rw [upd_ne _ _ e]; exact hk.2.2 b' y (old b' y e hb').1
  refine ⟨⟨H.lt, ?_, ?_, ?_, ?_, fun g => (H.glob g).mono F.le⟩, F⟩
  · intro b' y hb'
    by_cases e : b' = n
    · omega
    · have := H.bound b' y (old b' y e hb').1; omega
  · intro b1 b2 y1 y2 h1 h2 hm
    by_cases e1 : b1 = n <;> by_cases e2 : b2 = n
    · omega
    · subst e1
      obtain ⟨g2, n2⟩ := old b2 y2 e2 h2
      rw [upd_same, upd_ne _ _ e2] at hm
      exact absurd (H.inj b2 b y2 x g2 hb hm.symm) n2
    · subst e2
      obtain ⟨g1, n1⟩ := old b1 y1 e1 h1
      rw [upd_same, upd_ne _ _ e1] at hm
      exact absurd (H.inj b1 b y1 x g1 hb hm) n1
    · rw [upd_ne _ _ e1, upd_ne _ _ e2] at hm
      exact H.inj b1 b2 y1 y2 (old b1 y1 e1 h1).1 (old b2 y2 e2 h2).1 hm
  · intro b' y hb'
    by_cases e : b' = n
    · subst e; rw [upd_same]; exact H.res b x hb
    · rw [upd_ne _ _ e]; exact H.res b' y (old b' y e hb').1
  · intro b' y hb'
    by_cases e : b' = n
    · subst e
      rw [upd_same] at hb'
      cases hb'
      cases x' with
      | cells sz es =>
        obtain ⟨C, t, fr, h0, h1, h2, h3, h4⟩ := hx
        refine ⟨C, t, fr, ?_, by show Fz sz C.size (upd κ b' (κ b) b') fr; rw [upd_same]; exact h1, ?_, ?_, fun i e he => ⟨(h4 i e he).1, fun j y hj => ?_⟩⟩
        · show w.heap[upd μ b' (μ b) b']? = _; rw [upd_same]; exact h0
        · show es.length ≤ upd κ b' (κ b) b'; rw [upd_same]; exact h2
        · show upd κ b' (κ b) b' * sz ≤ _; rw [upd_same]; exact h3
        · obtain ⟨v, hv, hr⟩ := (h4 i e he).2 j y hj
          exact ⟨v, hv, hr.mono F.le⟩
      | iter s p => show w.heap[upd μ b' (μ b) b']? = _; rw [upd_same]; exact hx
      | bld T z c len =>
        obtain ⟨p, v, h0, h1, hc, h2, h3⟩ := hx
        refine ⟨p, v, ?_, ?_, Nat.lt_of_lt_of_le hc F.le.n, h2, fun hz => ?_⟩
        · show w.heap[upd μ b' (μ b) b']? = _; rw [upd_same]; exact h0
        · show p = _ ∨ p = .pointer (some ⟨upd μ b' (μ b) b', 0, none⟩); rw [upd_same]; exact h1
        · have e := h3 hz
          have e1 := F.le.μ c hc
          have e2 := F.le.κ c hc
          rw [e1, e2]; exact e
      | buf e l =>
        obtain ⟨C, h0, h1, h2, h3, h4⟩ := hx
        refine ⟨C, ?_, ?_, ?_, ?_, h4⟩
        · show w.heap[upd μ b' (μ b) b']? = _; rw [upd_same]; exact h0
        · show C.size = upd κ b' (κ b) b'; rw [upd_same]; exact h1
        · show _ ≤ upd κ b' (κ b) b'; rw [upd_same]; exact h2
        · show upd κ b' (κ b) b' ≤ _; rw [upd_same]; exact h3
      | mapb m es =>
        obtain ⟨A, c, h0, h1, h2⟩ := hx
        refine ⟨A, c, ?_, h1, fun i k v hi => ?_⟩
        · show w.heap[upd μ b' (μ b) b']? = _; rw [upd_same]; exact h0
        · obtain ⟨g0, e, g1, g2, g3⟩ := h2 i k v hi
          exact ⟨g0, e, g1, g2.mono F.le.bare, g3.mono F.le.bare⟩
      | mit m la es =>
        obtain ⟨r, A, c, seen, h0, h1, h2, hl, h3⟩ := hx
        refine ⟨r, A, c, seen, ?_, ⟨F.le.S r h1.1, h1.2⟩, h2, fun k v hk => ?_, fun i k v hi => ?_⟩
        · show w.heap[upd μ b' (μ b) b']? = _; rw [upd_same]; exact h0
        · obtain ⟨e, s0, g0, g1, g2, g3⟩ := hl k v hk
          exact ⟨e, s0, g0, g1, g2.mono F.le.bare, g3.mono F.le.bare⟩
        · obtain ⟨g0, e, g1, g2, g3⟩ := h3 i k v hi
          exact ⟨g0, e, g1, g2.mono F.le.bare, g3.mono F.le.bare⟩
    · obtain ⟨g, _⟩ := old b' y e hb'
      exact (H.blk b' y g).mono F.le (H.bound b' y g) rfl

omit HE in
/-- a live block under a new name, its cells told in another row -/
theorem recells {b c sz : Nat} {x : Blk} {es : List (List Cel)} (hb : h b = some x) (hx : ∃ (C : Array Value) (t : TypeId) (fr : Nat × Nat), w.heap[μ b]? = some (.cells C t fr) ∧ Fz sz C.size c fr ∧
      es.length ≤ c ∧ c * sz ≤ C.size ∧ ∀ (i : Nat) (e : List Cel), es[i]? = some e → e.length = sz ∧ ∀ (j : Nat) (x : Cel), e[j]? = some x → ∃ v, C[i * sz + j]? = some v ∧ RelC (ctx E w μ κ h n) x v) :
    HeapOK Γ E w (upd μ n (μ b)) (upd κ n c) (upd (upd h b none) n (some (.cells sz es))) (n + 1) ∧
    From E (ctx E w μ κ h n) (ctx E w (upd μ n (μ b)) (upd κ n c) (upd (upd h b none) n (some (.cells sz es))) (n + 1)) := by
  have hbn := H.bound b x hb
  have old : ∀ b' y, b' ≠ n → upd (upd h b none) n (some (.cells sz es)) b' = some y → h b' = some y ∧ b' ≠ b := by
    intro b' y e hb'
    rw [upd_ne _ _ e] at hb'
    by_cases e2 : b' = b
    · subst e2; rw [upd_same] at hb'; cases hb'
    · rw [upd_ne _ _ e2] at hb'; exact ⟨hb', e2⟩
  have F : From E (ctx E w μ κ h n) (ctx E w (upd μ n (μ b)) (upd κ n c) (upd (upd h b none) n (some (.cells sz es))) (n + 1)) := by
    refine ⟨⟨Nat.le_succ _, fun b' hb' => upd_ne _ _ (Nat.ne_of_lt hb'), fun b' hb' => upd_ne _ _ (Nat.ne_of_lt hb'), fun k hk => ⟨hk.1, hk.2.1, ?_⟩, fun _ _ => rfl⟩, Nat.le_refl _, rfl, rfl, rfl, fun _ _ _ => rfl⟩
    intro b' y hb'
    by_cases e : b' = n
    · subst e; show upd μ b' (μ b) b' ≠ k; rw [upd_same]; exact hk.2.2 b x hb
    · show upd μ n (μ b) b' ≠ k
      rw [upd_ne _ _ e]; exact hk.2.2 b' y (old b' y e hb').1
  refine ⟨⟨H.lt, ?_, ?_, ?_, ?_, fun g => (H.glob g).mono F.le⟩, F⟩
  · intro b' y hb'
    by_cases e : b' = n
    · omega
    · have := H.bound b' y (old b' y e hb').1; omega
  · intro b1 b2 y1 y2 h1 h2 hm
    by_cases e1 : b1 = n <;> by_cases e2 : b2 = n
    · omega
    · subst e1
      obtain ⟨g2, n2⟩ := old b2 y2 e2 h2
      rw [upd_same, upd_ne _ _ e2] at hm
      exact absurd (H.inj b2 b y2 x g2 hb hm.symm) n2
    · subst e2
      obtain ⟨g1, n1⟩ := old b1 y1 e1 h1
      rw [upd_same, upd_ne _ _ e1] at hm
      exact absurd (H.inj b1 b y1 x g1 hb hm) n1
    · rw [upd_ne _ _ e1, upd_ne _ _ e2] at hm
      exact H.inj b1 b2 y1 y2 (old b1 y1 e1 h1).1 (old b2 y2 e2 h2).1 hm
  · intro b' y hb'
    by_cases e : b' = n
    · subst e; rw [upd_same]; exact H.res b x hb
    · rw [upd_ne _ _ e]; exact H.res b' y (old b' y e hb').1
  · intro b' y hb'
    by_cases e : b' = n
    · subst e
      rw [upd_same] at hb'
      cases hb'
      obtain ⟨C, t, fr, h0, h1, h2, h3, h4⟩ := hx
      refine ⟨C, t, fr, ?_, by show Fz sz C.size (upd κ b' c b') fr; rw [upd_same]; exact h1, ?_, ?_, fun i e he => ⟨(h4 i e he).1, fun j y hj => ?_⟩⟩
      · show w.heap[upd μ b' (μ b) b']? = _; rw [upd_same]; exact h0
      · show es.length ≤ upd κ b' c b'; rw [upd_same]; exact h2
      · show upd κ b' c b' * sz ≤ _; rw [upd_same]; exact h3
      · obtain ⟨v, hv, hr⟩ := (h4 i e he).2 j y hj
        exact ⟨v, hv, hr.mono F.le⟩
    · obtain ⟨g, _⟩ := old b' y e hb'
      exact (H.blk b' y g).mono F.le (H.bound b' y g) rfl
theorem slArr_ok {t e : TypeId} {len sz : Nat} {x : Operand} {lo hi : Option Operand} {x' : Arg} {lo' hi' : Option Arg} (hu : P.underlying t = some (.array len e)) (hsz : sizeT P e = some sz) (hx : compArg P t x = some x') (hlo : compOpt P 0 lo = some lo') (hhi : compOpt P 0 hi = some hi')
    (hs : step2 Γ ⟨env, h, n⟩ (.slArr len sz x' lo' hi') = some (v, h', n')) : Did P Γ E w μ κ h n a ⟨dst, .slice t x lo hi none, type, pos, after, guard⟩ v h' n' := by
  simp only [step2] at hs
  split at hs
  · rename_i b s hg
    split at hs
    · rename_i s' q hb
      split at hs
      · rename_i hc
        obtain ⟨rfl, rfl, rfl, hq⟩ := hc
        split at hs
        · rename_i h1 hh1
          split at hs
          · rename_i a1 ha1
            simp only [Option.some.injEq, Prod.mk.injEq] at hs
            obtain ⟨rfl, rfl, rfl⟩ := hs
            obtain ⟨hbn, he⟩ := relC_ref (relV_c (arg_ok H HE hx hg))
            obtain ⟨hrun, hle, htop⟩ := bounds_ok (isS := false) H HE hlo hhi (Nat.le_refl _) (Nat.le_refl _) hh1 ha1
            obtain ⟨C, ct, fr, g0, g1, g2, g3, g4⟩ := H.blk b _ hb
            have hκ : 1 ≤ κ b := g2
            have hrow := g4 0 q rfl
            have hsz0 : s' ≤ C.size := by
              have : 1 * s' ≤ κ b * s' := Nat.mul_le_mul_right _ hκ
              have g3' : κ b * s' ≤ C.size := g3
              omega
            obtain ⟨H1, F1⟩ := recells (c := s') (sz := 1) (es := q.map fun c => [c]) H hb ⟨C, ct, fr, g0, ⟨g1.1, fun h => absurd rfl h⟩, by simp [hq], by omega, fun i d hd => by
              rw [List.getElem?_map] at hd
              obtain ⟨y, hy, rfl⟩ := Option.map_eq_some_iff.1 hd
              refine ⟨rfl, fun j z hz => ?_⟩
              cases j with
              | zero =>
                cases hz
                obtain ⟨vv, hv, hr⟩ := hrow.2 i y hy
                exact ⟨vv, by simpa using hv, hr⟩
              | succ j => simp at hz⟩
            refine ⟨w, _, _, .value (.slice (some (if s' = a1 then ⟨μ b, 0, none⟩ else (⟨μ b, 0, none⟩ : Addr).add (a1 * 1))) (h1 - a1) (s' - a1)), _, ?_, .inl rfl, H1, F1, fun y hy => ?_⟩
            · simp only [execOp, he, Instr.sliceAt, Instr.sureAddr, Sem.run_bind, run_underlying hu, Result.andThen_ok, Option.map_none, hrun, run_sizeOf' hsz, Sem.run_pure, Nat.zero_mul, Nat.add_zero]
              rfl
            · cases hy
              have hadd : (if s' = a1 then (⟨μ b, 0, none⟩ : Addr) else (⟨μ b, 0, none⟩ : Addr).add (a1 * 1)) = ⟨μ b, if s' = a1 then 0 else a1, none⟩ := by
                split
                · rfl
                · simp [Addr.add]; omega
              rw [hadd]
              have hown := RelC.own (K := ctx E w (upd μ n (μ b)) (upd κ n s') (upd (upd h b none) n (some (.cells 1 (q.map fun c => [c])))) (n + 1)) (b := n) (sz := 1) (off := a1) (len := h1 - a1) (m := s' - a1) (cap := s' - a1) (o := if s' = a1 then 0 else a1) (Nat.lt_succ_self n) (by omega) (Nat.le_refl _) (by split <;> omega) (by show _ ≤ upd κ n s' n; rw [upd_same]; omega)
              rw [show (ctx E w (upd μ n (μ b)) (upd κ n s') (upd (upd h b none) n (some (.cells 1 (q.map fun c => [c])))) (n + 1)).μ n = μ b from upd_same _ _ _] at hown
              exact .c hown
          · cases hs
        · cases hs
      · cases hs
    · cases hs
  · cases hs

omit HE in
/-- one more number is passed over -/
theorem bump : HeapOK Γ E w μ κ h (n + 1) ∧ From E (ctx E w μ κ h n) (ctx E w μ κ h (n + 1)) := by
  have F : From E (ctx E w μ κ h n) (ctx E w μ κ h (n + 1)) :=
    ⟨⟨Nat.le_succ _, fun _ _ => rfl, fun _ _ => rfl, fun _ h => h, fun _ _ => rfl⟩, Nat.le_refl _, rfl, rfl, rfl, fun _ _ _ => rfl⟩
  exact ⟨⟨H.lt, fun b x hb => Nat.lt_succ_of_lt (H.bound b x hb), H.inj, H.res, fun b x hb => (H.blk b x hb).mono F.le (H.bound b x hb) rfl, fun g => (H.glob g).mono F.le⟩, F⟩

/-- append's run, whatever is appended -/
theorem append_core {t tx e : TypeId} {ti : TypeInfo} {z : Value} {x : Operand} {x' : Arg} {c : Cel} {u : Value} {news : List (List Cel)} {vs : List Value} {ty : TypeId} (hu : P.underlying t = some (.slice e)) (hti : P.info? e = some ti) (hz : ti.zero = some z) (hzs : z.cells.size = ti.size)
    (hx : compArg P t x = some x') (hg : x'.get Γ env = some (.c c)) (hsrc : Src P ti.size tx u news.length vs w)
    (hn : ∀ (i : Nat) (e : List Cel), news[i]? = some e → e.length = ti.size ∧ ∀ (j : Nat) (x : Cel), e[j]? = some x → RelC (ctx E w μ κ h n) x (vs.getD (i * ti.size + j) undef))
    (hs : appendC h n ti.size ti.bytes c news = some (v, h', n')) (hb0 : ti.bytes ≠ 0) :
    ∃ (w' : World) (μ' κ' : Nat → Nat) (cv : Value), (Builtin.append_ #[t, tx] ty #[a.eval x, u]).run P w = .ok cv w' ∧ HeapOK Γ E w' μ' κ' h' n' ∧
      From E (ctx E w μ κ h n) (ctx E w' μ' κ' h' n') ∧ ∀ x, v = some x → RelV (ctx E w' μ' κ' h' n') x cv := by
  have hr := relV_c (arg_ok H HE hx hg)
  have same : ∀ (base : Option Addr) (sLen sCap : Nat), a.eval x = .slice base sLen sCap → sLen ≤ sCap → news.isEmpty = true → v = some (.c c) → h' = h → n' = n + 1 →
      ∃ (w' : World) (μ' κ' : Nat → Nat) (cv : Value), (Builtin.append_ #[t, tx] ty #[a.eval x, u]).run P w = .ok cv w' ∧ HeapOK Γ E w' μ' κ' h' n' ∧
        From E (ctx E w μ κ h n) (ctx E w' μ' κ' h' n') ∧ ∀ x, v = some x → RelV (ctx E w' μ' κ' h' n') x cv := by
    rintro base sLen sCap he hle hemp rfl rfl rfl
    have : news = [] := List.isEmpty_iff.1 hemp
    subst this
    rw [he] at hr ⊢
    exact ⟨w, μ, κ, _, run_append_none hu hti hsrc hle, (bump H).1, (bump H).2, fun x hx => by cases hx; exact .c (hr.mono (bump H).2.le)⟩
  have fresh : ∀ (base : Option Addr), a.eval x = .slice base 0 0 → ¬ news.isEmpty = true → freshC h n ti.size ti.bytes news = some (v, h', n') →
      ∃ (w' : World) (μ' κ' : Nat → Nat) (cv : Value), (Builtin.append_ #[t, tx] ty #[a.eval x, u]).run P w = .ok cv w' ∧ HeapOK Γ E w' μ' κ' h' n' ∧
        From E (ctx E w μ κ h n) (ctx E w' μ' κ' h' n') ∧ ∀ x, v = some x → RelV (ctx E w' μ' κ' h' n') x cv := by
    intro base he hne hf
    unfold freshC at hf
    split at hf
    · rename_i hle
      simp only [Option.some.injEq, Prod.mk.injEq] at hf
      obtain ⟨rfl, rfl, rfl⟩ := hf
      have h0 : 0 < news.length := by
        cases news with
        | nil => simp at hne
        | cons => simp
      have hold : (Builtin.firstCells ti.size 0 (.slice base 0 0)).run P w.drew = .ok ([] : List Value).toArray w.drew := by
        cases base with
        | none => rfl
        | some ad => simp only [Builtin.firstCells, Nat.zero_mul, loadCells, loadCellsFrom, Sem.run_pure]
      obtain ⟨w', μ', κ', cv, h1, h2, h3, h4⟩ := grow_core (olds := []) (ty := ty) H hu hti hz hzs hb0 hsrc hold rfl (by simp) (fun i e he => by simp at he) hn (by omega) (by rw [Nat.zero_add]; exact hle)
      rw [he]
      simp only [List.nil_append, Nat.zero_add] at h2 h3 h4
      exact ⟨w', μ', κ', cv, h1, h2, h3, fun x hx => by cases hx; exact h4⟩
    · cases hf
  unfold appendC at hs
  split at hs
  · rename_i nl s xs
    have hex : ∃ A cap, a.eval x = .slice A xs.length cap ∧ xs.length ≤ cap ∧ (nl = true → A = none) ∧ (A = none → cap = 0) := by
      generalize a.eval x = q at hr
      cases hr with
      | ro f hn hc hz hl hs hcell hrel => exact ⟨_, _, rfl, hc, hn, hz⟩
    obtain ⟨A, cap, he, hc, hnl, hz0⟩ := hex
    split at hs
    · rename_i hemp
      simp only [Option.some.injEq, Prod.mk.injEq] at hs
      exact same A _ cap he hc hemp hs.1.symm hs.2.1.symm hs.2.2.symm
    · rename_i hemp
      split at hs
      · rename_i hnt
        have hA : A = none := hnl hnt
        have h0 := hz0 hA
        subst hA
        subst h0
        have : xs.length = 0 := by omega
        rw [this] at he
        exact fresh none he hemp hs
      · cases hs
  · rename_i s
    have hex : ∃ ad, a.eval x = .slice ad 0 0 := by
      generalize a.eval x = q at hr
      cases hr with
      | emp => exact ⟨_, rfl⟩
    obtain ⟨ad, he⟩ := hex
    split at hs
    · rename_i hemp
      simp only [Option.some.injEq, Prod.mk.injEq] at hs
      exact same _ _ _ he (Nat.le_refl _) hemp hs.1.symm hs.2.1.symm hs.2.2.symm
    · rename_i hemp
      exact fresh _ he hemp hs
  · rename_i b s off len m
    obtain ⟨o, cap, hbn, he, hl, hm, ho, hk⟩ := relC_own hr
    split at hs
    · rename_i s' es hb
      split at hs
      · rename_i hcond
        obtain ⟨hs1, hs2, hoff, hle, hbig⟩ := hcond
        subst hs1
        subst hs2
        subst hoff
        obtain ⟨C, tt, fr, hC, hfr, hcl, hsz, hes⟩ := H.blk b _ hb
        have hCw : w.heap[μ b]? = some (.cells C tt fr) := hC
        simp only [Option.some.injEq, Prod.mk.injEq] at hs
        obtain ⟨rfl, rfl, rfl⟩ := hs
        simp only [Nat.zero_add] at hk
        have ho' : o = 0 ∨ cap = 0 := by
          rcases ho with h | h
          · left; simpa using h
          · exact .inr h
        by_cases hemp : news = []
        · subst hemp
          have hx' : BlkRel (ctx E w μ κ h n) b (.cells ti.size (es.take len ++ [])) := by
            refine ⟨C, tt, fr, hC, hfr, Nat.le_trans (by simp; omega) hcl, hsz, fun i e he => hes i e ?_⟩
            rw [List.append_nil, List.getElem?_take] at he
            split at he
            · exact he
            · cases he
          have H2 := rename H hb hx'
          refine ⟨_, _, _, _, by rw [he]; exact run_append_none hu hti hsrc (by omega), H2.1, H2.2, fun x hx => ?_⟩
          cases hx
          have := RelC.own (K := ctx E w (upd μ n (μ b)) (upd κ n (κ b)) (upd (upd h b none) n (some (.cells ti.size (es.take len ++ [])))) (n + 1)) (b := n) (sz := ti.size) (off := 0) (len := len) (m := len) (cap := cap) (o := o) (Nat.lt_succ_self n) (Nat.le_refl _) (by omega) (by simpa using ho') (by
            show 0 + cap ≤ upd κ n (κ b) n
            rw [upd_same, Nat.zero_add]; exact hk)
          rw [show (ctx E w (upd μ n (μ b)) (upd κ n (κ b)) (upd (upd h b none) n (some (.cells ti.size (es.take len ++ [])))) (n + 1)).μ n = μ b from upd_same _ _ _] at this
          exact .c this
        · have h0 : 0 < news.length := by
            cases news with
            | nil => exact absurd rfl hemp
            | cons => simp
          by_cases hfit : len + news.length ≤ cap
          · -- there was room, after all: the row is the same, under a new name
            have ho' : o = 0 := by rcases ho' with h | h <;> omega
            subst ho'
            have hbd2 : len * ti.size + vs.length ≤ C.size := by
              rw [hsrc.newsLen, ← Nat.add_mul]
              exact Nat.le_trans (Nat.mul_le_mul_right _ (by have hk' : cap ≤ κ b := hk; omega)) hsz
            have run := run_append_room_src (P := P) w t tx ty e ti hu hti (μ b) 0 len cap u news.length vs hsrc hfit (fun j hj => by
              rw [Nat.zero_add, block_cell hCw, get_of_getD (by omega)]; rfl) (fun j hj => by rw [Nat.zero_add]; exact block_free hCw hfr.1 _ (by omega))
            rw [Nat.zero_add] at run
            obtain ⟨H1, F1⟩ := write_row H hb len news vs hle (by have hk' : cap ≤ κ b := hk; omega) hsrc.newsLen hn
            have H2 : HeapOK Γ E (w.setCells (μ b) (len * ti.size) vs) (upd μ n (μ b)) (upd κ n (κ b)) (upd (upd h b none) n (some (.cells ti.size (es.take len ++ news)))) (n + 1) ∧
                From E (ctx E (w.setCells (μ b) (len * ti.size) vs) μ κ (upd h b (some (.cells ti.size (es.take len ++ news ++ es.drop (len + news.length))))) n) (ctx E (w.setCells (μ b) (len * ti.size) vs) (upd μ n (μ b)) (upd κ n (κ b)) (upd (upd h b none) n (some (.cells ti.size (es.take len ++ news)))) (n + 1)) := by
              have hx := H1.blk b _ (upd_same _ _ _)
              have hx' : BlkRel (ctx E (w.setCells (μ b) (len * ti.size) vs) μ κ (upd h b (some (.cells ti.size (es.take len ++ news ++ es.drop (len + news.length))))) n) b (.cells ti.size (es.take len ++ news)) := by
                obtain ⟨C, t, fr, h0, h1, h2, h3, h4⟩ := hx
                refine ⟨C, t, fr, h0, h1, Nat.le_trans (by simp) h2, h3, fun i e he => h4 i e ?_⟩
                rw [List.getElem?_append_left (List.getElem?_eq_some_iff.1 he).1]
                exact he
              have H2 := rename H1 (upd_same _ _ _) hx'
              have ee : upd (upd h b (some (.cells ti.size (es.take len ++ news ++ es.drop (len + news.length))))) b none = upd h b none := by
                funext j
                by_cases e : j = b
                · subst e; rw [upd_same, upd_same]
                · rw [upd_ne _ _ e, upd_ne _ _ e, upd_ne _ _ e]
              rw [ee] at H2
              exact H2
            refine ⟨_, _, _, _, by rw [he]; exact run, H2.1, F1.trans H2.2, fun x hx => ?_⟩
            cases hx
            have := RelC.own (K := ctx E (w.setCells (μ b) (len * ti.size) vs) (upd μ n (μ b)) (upd κ n (κ b)) (upd (upd h b none) n (some (.cells ti.size (es.take len ++ news)))) (n + 1)) (b := n) (sz := ti.size) (off := 0) (len := len + news.length) (m := len + news.length) (cap := cap) (o := 0) (Nat.lt_succ_self n) (Nat.le_refl _) hfit (.inl (by simp)) (by
              show 0 + cap ≤ upd κ n (κ b) n
              rw [upd_same, Nat.zero_add]; exact hk)
            rw [show (ctx E (w.setCells (μ b) (len * ti.size) vs) (upd μ n (μ b)) (upd κ n (κ b)) (upd (upd h b none) n (some (.cells ti.size (es.take len ++ news)))) (n + 1)).μ n = μ b from upd_same _ _ _] at this
            exact .c this
          · have hovl : ((List.range (len * ti.size)).map fun k => C.getD k undef).length = len * ti.size := by simp
            have hCs : len * ti.size ≤ C.size := Nat.le_trans (Nat.mul_le_mul_right _ (by have hk' : cap ≤ κ b := hk; omega)) hsz
            have hold : (Builtin.firstCells ti.size len (.slice (some ⟨μ b, o, none⟩) len cap)).run P w.drew = .ok ((List.range (len * ti.size)).map fun k => C.getD k undef).toArray w.drew := by
              refine run_firstCells_some (P := P) w.drew ti.size len _ len cap _ hovl (fun j u hj => ?_)
              rw [List.getElem?_map] at hj
              obtain ⟨k, hk1, rfl⟩ := Option.map_eq_some_iff.1 hj
              obtain ⟨hlt, rfl⟩ := List.getElem?_eq_some_iff.1 hk1
              simp only [List.length_range] at hlt
              simp only [List.getElem_range]
              have ho0 : o = 0 := by
                rcases ho' with h | h
                · exact h
                · have : len = 0 := by omega
                  subst this
                  simp at hlt
              subst ho0
              show w.cell? _ = _
              rw [show (⟨μ b, 0, none⟩ : Addr).add j = ⟨μ b, j, none⟩ by unfold Addr.add; split <;> simp_all, block_cell hCw]
              exact get_of_getD (by omega)
            obtain ⟨w', μ', κ', cv, h1, h2, h3, h4⟩ := grow_core (olds := es.take len) (ty := ty) H hu hti hz hzs hb0 hsrc hold (by simp; omega) hovl (fun i e hi => by
              have hil : i < len := by have := (List.getElem?_eq_some_iff.1 hi).1; simp at this; omega
              rw [List.getElem?_take_of_lt hil] at hi
              refine ⟨(hes i e hi).1, fun j y hj => ?_⟩
              obtain ⟨u, hu, hr⟩ := (hes i e hi).2 j y hj
              have hjl : j < ti.size := by rw [← (hes i e hi).1]; exact (List.getElem?_eq_some_iff.1 hj).1
              have hlt := mul_lt hil hjl
              have : ((List.range (len * ti.size)).map fun k => C.getD k undef).getD (i * ti.size + j) undef = u := by
                simp only [List.getD, List.getElem?_map, List.getElem?_range hlt, Option.map_some, Option.getD_some]
                exact getD_of hu
              rw [this]
              exact hr) hn (by omega) hbig
            have hsub : ∀ b' y, upd (upd h b none) n (some (Blk.cells ti.size (es.take len ++ news))) b' = some y → upd h n (some (Blk.cells ti.size (es.take len ++ news))) b' = some y := by
              intro b' y hb'
              by_cases e1 : b' = n
              · subst e1; rw [upd_same] at hb' ⊢; exact hb'
              · rw [upd_ne _ _ e1] at hb' ⊢
                by_cases e2 : b' = b
                · subst e2; rw [upd_same] at hb'; cases hb'
                · rw [upd_ne _ _ e2] at hb'; exact hb'
            obtain ⟨H3, F3⟩ := h2.less hsub
            rw [he]
            exact ⟨w', μ', κ', cv, h1, H3, h3.trans F3, fun x hx => by cases hx; exact h4.mono F3.le⟩
      · cases hs
    · cases hs
  · cases hs

end
end Go.Proofs.YtolmbcngghkfiaaDoorBv
