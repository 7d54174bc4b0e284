/- The calculus: regions that draw their order. It proves nothing of any program. -/
import Derived.Test.YtolmbcngghkfiaaDoorBv15
namespace Go.Proofs.YtolmbcngghkfiaaDoorBv
open Go
set_option linter.unusedVariables false
set_option linter.unusedSimpArgs false

section
variable {P : Program} {ops : Array Oper} {Q : Exit → Act → World → Prop} {md : Region.Mode} {S : World → Prop} {W qt : Nat → Bool}

/-- Whatever order is picked from here on; behind an operation that must keep what the looking ones look at, 'S' holds. -/
def wpAnyG (P : Program) (md : Region.Mode) (ops : Array Oper) (Q : Exit → Act → World → Prop) (S : World → Prop) (W qt : Nat → Bool) : Nat → Array Bool → Act → World → Prop
  | 0, listed, a, w => Region.ready md ops listed = [] ∧ Q .normal a w
  | fuel + 1, listed, a, w =>
    (Region.ready md ops listed = [] → Q .normal a w) ∧
    ∀ i ∈ Region.ready md ops listed, wpOp P ops Q i (fun a' w' => ((W i = true → S w') ∧ (qt i = true → w' = w)) ∧ wpAnyG P md ops Q S W qt fuel (listed.setIfInBounds i true) a' w') a w

theorem wpAny_of_G : ∀ (fuel : Nat) (listed : Array Bool) (a : Act) (w : World), wpAnyG P md ops Q S W qt fuel listed a w → wpAny P md ops Q fuel listed a w
  | 0, _, _, _, h => h
  | fuel + 1, _, _, _, h => ⟨h.1, fun i hi => wpOp_mono (fun a' w' h' => wpAny_of_G fuel _ a' w' h'.2) (h.2 i hi)⟩

theorem wpAnyG_mono {S' : World → Prop} (hS : ∀ w, S w → S' w) : ∀ (fuel : Nat) (listed : Array Bool) (a : Act) (w : World), wpAnyG P md ops Q S W qt fuel listed a w → wpAnyG P md ops Q S' W qt fuel listed a w
  | 0, _, _, _, h => h
  | fuel + 1, _, _, _, h => ⟨h.1, fun i hi => wpOp_mono (fun a' w' h' => ⟨⟨fun hw => hS _ (h'.1.1 hw), h'.1.2⟩, wpAnyG_mono hS fuel _ a' w' h'.2⟩) (h.2 i hi)⟩

/-- what is listed is closed under what it waits for -/
def Closed (ops : Array Oper) (listed : Array Bool) : Prop := ∀ j, listed.getD j false = true → ∀ k ∈ predsOf ops j, listed.getD k false = true

theorem mem_preds {i k : Nat} : k ∈ predsOf ops i ↔ ∃ o, ops[i]? = some o ∧ ∃ e ∈ o.after, Region.binds .any e = true ∧ e.on = k := by
  unfold predsOf
  cases h : ops[i]? with
  | none => simp
  | some o =>
    simp only [List.mem_map, List.mem_filter, Array.mem_toList_iff, Option.some.injEq, exists_eq_left']
    constructor
    · rintro ⟨e, ⟨h1, h2⟩, rfl⟩; exact ⟨e, h1, h2, rfl⟩
    · rintro ⟨e, h1, h2, rfl⟩; exact ⟨e, ⟨h1, h2⟩, rfl⟩

theorem ready_preds {i : Nat} {listed : Array Bool} (h : i ∈ Region.ready .any ops listed) : ∀ k ∈ predsOf ops i, listed.getD k false = true := by
  intro k hk
  obtain ⟨o, ho, e, he, hb, rfl⟩ := mem_preds.1 hk
  obtain ⟨_, o', ho', hall⟩ := mem_ready.1 h
  rw [ho] at ho'
  cases ho'
  exact hall e he hb

theorem must_listed {i : Nat} {listed : Array Bool} (hc : Closed ops listed) (h : i ∈ Region.ready .any ops listed) : ∀ (n : Nat), ∀ k ∈ mustOf ops i n, listed.getD k false = true := by
  intro n
  induction n with
  | zero => exact ready_preds h
  | succ n ih =>
    intro k hk
    simp only [mustOf, List.mem_filter, Bool.or_eq_true, List.contains_iff_mem, List.any_eq_true] at hk
    rcases hk.2 with h1 | ⟨y, hy, h1⟩
    · exact ih k h1
    · exact hc y (ih y hy) k (by simpa using h1)

theorem Closed.next {i : Nat} {listed : Array Bool} (hc : Closed ops listed) (h : i ∈ Region.ready .any ops listed) : Closed ops (listed.setIfInBounds i true) := by
  intro j hj k hk
  by_cases hji : j = i
  · subst hji
    exact getD_set_true (ready_preds h k hk)
  · rw [getD_set_ne false (Ne.symm hji)] at hj
    exact getD_set_true (hc j hj k hk)

theorem wpAnyG_first {i : Nat} {oi : Oper} {v : Value} (hi : ops[i]? = some oi) (hsel : ∀ (j : Nat) (o : Oper) cs b, ops[j]? = some o → o.op ≠ .select cs b)
    (hQ : ∀ c a w, Q (.panic c) (a.put oi.dst v) w → Q (.panic c) a w) (hW : ∀ j, j ≠ i → W j = false → qt j = true ∨ ∃ n, i ∈ mustOf ops j n) :
    ∀ (fuel : Nat) (listed : Array Bool) (a : Act) (w : World), Closed ops listed →
      (∀ j oj, ops[j]? = some oj → j ≠ i → listed.getD j true = false → (∀ e ∈ oj.after, Region.binds .any e = true → e.on ≠ i) → oi.apart ops oj = true) →
      i ∈ Region.ready .any ops listed → YieldsIf P ops S oi v a → S w →
      wpAnyG P .any ops Q S W qt fuel (listed.setIfInBounds i true) (a.put oi.dst v) w → wpAnyG P .any ops Q S W qt (fuel + 1) listed a w := by
  have unlisted : ∀ listed : Array Bool, i ∈ Region.ready .any ops listed → ¬ listed.getD i false = true := by
    intro listed hr h1
    have h0 := (mem_ready.1 hr).1
    rcases Nat.lt_or_ge i listed.size with h' | h'
    · simp [h'] at h0 h1; rw [h0] at h1; cases h1
    · simp [Array.getElem?_eq_none h'] at h1
  intro fuel
  induction fuel with
  | zero =>
    intro listed a w hcl _ hr hy hS H
    refine ⟨fun h => (by rw [h] at hr; cases hr), fun j hj => ?_⟩
    by_cases hji : j = i
    · subst hji; exact hy.wpOp hi hS ⟨⟨fun _ => hS, fun _ => rfl⟩, H⟩
    · have := ready_mono hj hji
      rw [H.1] at this
      cases this
  | succ fuel ih =>
    intro listed a w hcl hfree hr hy hS H
    refine ⟨fun h => (by rw [h] at hr; cases hr), fun j hj => ?_⟩
    by_cases hji : j = i
    · subst hji; exact hy.wpOp hi hS ⟨⟨fun _ => hS, fun _ => rfl⟩, H⟩
    · have h1 := H.2 j (ready_mono hj hji)
      obtain ⟨hjun, oj, hoj, hall⟩ := mem_ready.1 hj
      have hWj : W j = true ∨ qt j = true := by
        cases hwj : W j with
        | true => exact .inl rfl
        | false =>
          rcases hW j hji hwj with hq | ⟨n, hm⟩
          · exact .inr hq
          · exact absurd (must_listed hcl hj n i hm) (unlisted listed hr)
      have hnot : ∀ e ∈ oj.after, Region.binds .any e = true → e.on ≠ i := fun e he hb heq => by
        have h1 := hall e he hb
        rw [heq] at h1
        exact unlisted listed hr h1
      have h2 := wpOp_putIf hoj (hfree j oj hoj hji hjun hnot) (fun cs b => hsel i oi cs b hi) (fun cs b => hsel j oj cs b hoj) hQ hy h1
      have hfree' : ∀ k ok, ops[k]? = some ok → k ≠ i → (listed.setIfInBounds j true).getD k true = false →
          (∀ e ∈ ok.after, Region.binds .any e = true → e.on ≠ i) → oi.apart ops ok = true := fun k ok hk hki hun hno => by
        refine hfree k ok hk hki ?_ hno
        by_cases hjk : j = k
        · subst hjk; exact hjun
        · rw [getD_set_ne true hjk] at hun; exact hun
      refine wpOp_mono (fun a' w' h3 => ?_) h2
      have hS' : S w' := by
        rcases hWj with h | h
        · exact h3.2.1.1 h
        · rw [h3.2.1.2 h]; exact hS
      refine ⟨h3.2.1, ih (listed.setIfInBounds j true) a' w' (hcl.next hj) hfree' (ready_mono hr (Ne.symm hji)) h3.1 hS' ?_⟩
      rw [Array.setIfInBounds_comm _ _ hji]
      exact h3.2.2

/-- What looks at no memory may be taken first, whatever is done to memory. -/
theorem wpAnyG_first0 {i : Nat} {oi : Oper} {v : Value} (hi : ops[i]? = some oi) (hsel : ∀ (j : Nat) (o : Oper) cs b, ops[j]? = some o → o.op ≠ .select cs b)
    (hQ : ∀ c a w, Q (.panic c) (a.put oi.dst v) w → Q (.panic c) a w) (hWi : W i = false) :
    ∀ (fuel : Nat) (listed : Array Bool) (a : Act) (w : World), Closed ops listed →
      (∀ j oj, ops[j]? = some oj → j ≠ i → listed.getD j true = false → (∀ e ∈ oj.after, Region.binds .any e = true → e.on ≠ i) → oi.apart ops oj = true) →
      i ∈ Region.ready .any ops listed → YieldsIf P ops (fun _ => True) oi v a →
      wpAnyG P .any ops Q S W qt fuel (listed.setIfInBounds i true) (a.put oi.dst v) w → wpAnyG P .any ops Q S W qt (fuel + 1) listed a w := by
  have unlisted : ∀ listed : Array Bool, i ∈ Region.ready .any ops listed → ¬ listed.getD i false = true := by
    intro listed hr h1
    have h0 := (mem_ready.1 hr).1
    rcases Nat.lt_or_ge i listed.size with h' | h'
    · simp [h'] at h0 h1; rw [h0] at h1; cases h1
    · simp [Array.getElem?_eq_none h'] at h1
  intro fuel
  induction fuel with
  | zero =>
    intro listed a w hcl _ hr hy H
    refine ⟨fun h => (by rw [h] at hr; cases hr), fun j hj => ?_⟩
    by_cases hji : j = i
    · subst hji; exact hy.wpOp hi trivial ⟨⟨fun h => (by rw [hWi] at h; cases h), fun _ => rfl⟩, H⟩
    · have := ready_mono hj hji
      rw [H.1] at this
      cases this
  | succ fuel ih =>
    intro listed a w hcl hfree hr hy H
    refine ⟨fun h => (by rw [h] at hr; cases hr), fun j hj => ?_⟩
    by_cases hji : j = i
    · subst hji; exact hy.wpOp hi trivial ⟨⟨fun h => (by rw [hWi] at h; cases h), fun _ => rfl⟩, H⟩
    · have h1 := H.2 j (ready_mono hj hji)
      obtain ⟨hjun, oj, hoj, hall⟩ := mem_ready.1 hj
      have hnot : ∀ e ∈ oj.after, Region.binds .any e = true → e.on ≠ i := fun e he hb heq => by
        have h1 := hall e he hb
        rw [heq] at h1
        exact unlisted listed hr h1
      have h2 := wpOp_putIf hoj (hfree j oj hoj hji hjun hnot) (fun cs b => hsel i oi cs b hi) (fun cs b => hsel j oj cs b hoj) hQ hy h1
      have hfree' : ∀ k ok, ops[k]? = some ok → k ≠ i → (listed.setIfInBounds j true).getD k true = false →
          (∀ e ∈ ok.after, Region.binds .any e = true → e.on ≠ i) → oi.apart ops ok = true := fun k ok hk hki hun hno => by
        refine hfree k ok hk hki ?_ hno
        by_cases hjk : j = k
        · subst hjk; exact hjun
        · rw [getD_set_ne true hjk] at hun; exact hun
      refine wpOp_mono (fun a' w' h3 => ⟨h3.2.1, ih (listed.setIfInBounds j true) a' w' (hcl.next hj) hfree' (ready_mono hr (Ne.symm hji)) h3.1 ?_⟩) h2
      rw [Array.setIfInBounds_comm _ _ hji]
      exact h3.2.2

/-- Taken first, with one more thing that is to hold from here on. -/
theorem wpAnyG_take {T : World → Prop} {i : Nat} {oi : Oper} {v : Value} {fuel : Nat} {listed : Array Bool} {a : Act} {w : World} (hi : ops[i]? = some oi)
    (hs : Region.noSelect ops = true) (hf : Region.free .any ops listed i = true) (hr : i ∈ Region.ready .any ops listed) (hcl : Closed ops listed) (hW : ∀ j, j ≠ i → W j = false → qt j = true ∨ ∃ n, i ∈ mustOf ops j n)
    (hQ : ∀ c a w, Q (.panic c) (a.put oi.dst v) w → Q (.panic c) a w) (hy : YieldsIf P ops (fun w => S w ∧ T w) oi v a) (hS : S w) (hT : T w)
    (h : wpAnyG P .any ops Q (fun w => S w ∧ T w) W qt fuel (listed.setIfInBounds i true) (a.put oi.dst v) w) : wpAnyG P .any ops Q S W qt (fuel + 1) listed a w :=
  wpAnyG_mono (fun _ h => h.1) _ _ _ _ (wpAnyG_first hi (Region.noSelect_spec hs) hQ hW fuel listed a w hcl (Region.free_spec hi hf) hr hy ⟨hS, hT⟩ h)

/-- The blocks that stood in one of these worlds are as they were in it. -/
def Old (refs : List World) (w : World) : Prop := ∀ r ∈ refs, r.heap.size ≤ w.heap.size ∧ ∀ k, k < r.heap.size → w.heap[k]? = r.heap[k]?

theorem Old.keep {refs : List World} {w w' : World} (h : Old refs w) (k : w.heap.size ≤ w'.heap.size ∧ ∀ i, i < w.heap.size → w'.heap[i]? = w.heap[i]?) : Old refs w' := fun r hr =>
  ⟨Nat.le_trans (h r hr).1 k.1, fun i hi => (k.2 i (Nat.lt_of_lt_of_le hi (h r hr).1)).trans ((h r hr).2 i hi)⟩
end

section
variable {P : Program} {ops : Array Oper} {Q : Exit → Act → World → Prop}
/-- what an operation is known to do beside -/
theorem wpOp_with {X : Act → World → Prop} {i : Nat} {oi : Oper} {K : Act → World → Prop} {a : Act} {w : World} (hi : ops[i]? = some oi)
    (hv : ∀ n w', (execOp a.eval oi).run P w = .ok n w' → ∀ (b : Act) (v : Value) (w'' : World), b.tmps = a.tmps → (∀ u, n = .value u → v = u ∧ w'' = w') → (n = .skip → w'' = w') → X (b.put oi.dst v) w'')
    (hn : Region.wanted oi (yielded ops a.tmps) = false → X (a.put oi.dst undef) w) (h : wpOp P ops Q i K a w) : wpOp P ops Q i (fun a' w' => K a' w' ∧ X a' w') a w := by
  unfold wpOp at *
  simp only [hi] at *
  split
  · rename_i hw
    simp only [hw, if_true] at h
    refine h.imp (fun h => ?_) id
    unfold Oper.wp at *
    generalize (execOp a.eval oi).run P w = r at h hv
    cases r with
    | ok n w' =>
      have hv := hv n w' rfl
      cases n with
      | value v => exact ⟨h, hv a v w' rfl (fun u e => by cases e; exact ⟨rfl, rfl⟩) (fun e => by cases e)⟩
      | skip => exact ⟨h, hv a undef w' rfl (fun u e => by cases e) (fun _ => rfl)⟩
      | defer d => exact ⟨h, hv _ undef w' rfl (fun u e => by cases e) (fun e => by cases e)⟩
      | enter f args =>
        simp only [Oper.upon] at h ⊢
        refine Calls.mono h fun e w'' he => ?_
        cases e with
        | returned v => exact ⟨he, hv a v w'' rfl (fun u e => by cases e) (fun e => by cases e)⟩
        | panicked c => exact he
        | outgrown => exact he
      | row r args =>
        simp only [Oper.upon] at h ⊢
        exact Rows.mono h fun v w'' he => ⟨he, hv a v w'' rfl (fun u e => by cases e) (fun e => by cases e)⟩
      | _ => exact h
    | halt x w' => cases x <;> exact h
  · rename_i hw
    simp only [hw] at h
    exact ⟨by simpa using h, hn (by simpa using hw)⟩
theorem put_other {a b : Act} {d : Option Nat} {v : Value} (hb : b.tmps = a.tmps) {t : Nat} (ht : d ≠ some t) : (b.put d v).eval (.tmp t) = a.eval (.tmp t) := by
  cases d with
  | none => show b.tmps.getD t undef = a.tmps.getD t undef; rw [hb]
  | some d =>
    have hne : d ≠ t := fun e => ht (by rw [e])
    show (b.tmps.setIfInBounds d v).getD t undef = a.tmps.getD t undef
    rw [hb]
    simp [Array.getD_eq_getD_getElem?, Array.getElem?_setIfInBounds, hne]
theorem put_same {b : Act} {d : Nat} {v : Value} (hd : d < b.tmps.size) : (b.put (some d) v).eval (.tmp d) = v := by
  show (b.tmps.setIfInBounds d v).getD d undef = v
  simp [Array.getD_eq_getD_getElem?, Array.getElem?_setIfInBounds, hd]
/-- a box lies behind all that was there -/
theorem alloc_run {a : Act} {w w' : World} {o : Oper} {e : TypeId} (ho : o.op = .alloc e) {n : Next} (h : (execOp a.eval o).run P w = .ok n w') : n = .value (.pointer (some ⟨w.heap.size, 0, none⟩)) := by
  obtain ⟨dst, op, type, pos, after, guard⟩ := o
  simp only at ho
  subst ho
  simp only [execOp, Instr.alloc, Sem.run_bind] at h
  have hz : ∀ z w0, (zeroValue e).run P w = .ok z w0 → w0 = w := by
    intro z w0 hz
    simp only [zeroValue, Sem.run_bind] at hz
    cases hi : P.info? e with
    | some i =>
      rw [run_typeInfo' hi, Result.andThen_ok] at hz
      cases hq : i.zero with
      | some v => rw [hq] at hz; cases hz; rfl
      | none => rw [hq] at hz; cases hz
    | none =>
      have : (typeInfo e).run P w = .halt (.stuck "no such type") w := by
        simp [typeInfo, Sem.run, hi]
      rw [this] at hz
      cases hz
  cases hr : (zeroValue e).run P w with
  | ok z w0 =>
    obtain rfl := hz z w0 hr
    rw [hr] at h
    simp only [Result.andThen_ok, newVar, newRow, Sem.run_bind, run_newObj, Sem.run_pure] at h
    cases h
    rfl
  | halt x w0 => rw [hr] at h; cases h
end

section
variable {P : Program} {Γ : Glob} {E : Nat → Prop} {K0 : Ctx} {N : Nat} {ops : Array Oper} {Q : Exit → Act → World → Prop}

theorem getA {as : List AOper} (has : ops.toList.mapM (compOper P ops) = some as) (i : Nat) (o : AOper) (hio : as.toArray[i]? = some o) : ∃ oi, ops[i]? = some oi ∧ compOper P ops oi = some o := by
  obtain ⟨h1, h2⟩ := mapM_get has
  have hlt : i < ops.size := by
    have := (Array.getElem?_eq_some_iff.1 hio).1
    simp [h1] at this
    exact this
  obtain ⟨y, hy, hc⟩ := h2 i ops[i] (by rw [Array.getElem?_toList]; exact Array.getElem?_eq_getElem hlt)
  simp only [List.getElem?_toArray] at hio
  rw [hio] at hy
  cases hy
  exact ⟨_, Array.getElem?_eq_getElem hlt, hc⟩

theorem fits_cons {x : AOper × Nat × Nat} {t : DT} (h : (t.cons x).fits N = true) : fitsD N x.1 = true ∧ t.fits N = true := by
  cases t with
  | fin l => simpa [DT.cons, DT.fits] using h
  | alt l a b =>
    simp only [DT.cons, DT.fits, List.all_cons, Bool.and_eq_true] at h ⊢
    exact ⟨h.1.1.1, ⟨h.1.1.2, h.1.2⟩, h.2⟩

/-- it looks -/
def quietA (as : Array AOper) (i : Nat) : Bool := ((as[i]?).map fun o => o.op.quiet).getD false

theorem guard_none {o : Oper} {ao : AOper} (hc : compOper P ops o = some ao) (h : o.guard = none) : ao.guard = none := by
  simp only [compOper, h, Option.some.injEq] at hc
  rw [← hc]
theorem fr_cases {fm : Bool} {i : Nat} {oi : Oper} {fr : List Nat} {t : Nat} (hoi : ops[i]? = some oi) (ht : t ∈ frNext fm ops fr i) : (t ∈ fr ∧ oi.dst ≠ some t) ∨ (isAlloc oi = true ∧ oi.dst = some t) := by
  unfold frNext at ht
  simp only [hoi] at ht
  cases hd : oi.dst with
  | none => rw [hd] at ht; exact .inl ⟨ht, by simp⟩
  | some d =>
    rw [hd] at ht
    have flt : t ∈ fr.filter (· != d) → t ∈ fr ∧ some d ≠ some t := fun h => by
      obtain ⟨h1, h2⟩ := List.mem_filter.1 h
      refine ⟨h1, fun e => ?_⟩
      cases e
      simp at h2
    simp only at ht
    split at ht
    · rename_i hc
      rcases List.mem_cons.1 ht with rfl | h
      · rw [Bool.and_eq_true] at hc
        exact .inr ⟨hc.2, rfl⟩
      · exact .inl (flt h)
    · exact .inl (flt ht)
theorem fr_other {fm : Bool} {i : Nat} {oi : Oper} {fr : List Nat} {t : Nat} (hoi : ops[i]? = some oi) (hn : isAlloc oi = false) (ht : t ∈ frNext fm ops fr i) : t ∈ fr ∧ oi.dst ≠ some t := by
  rcases fr_cases hoi ht with h | ⟨h, _⟩
  · exact h
  · rw [hn] at h; cases h
theorem not_alloc {oi : Oper} {ao : AOp} (h : compOp P oi = some ao) (hq : ao.quiet = true) : isAlloc oi = false := by
  cases ha : isAlloc oi with
  | false => rfl
  | true =>
    exfalso
    unfold isAlloc at ha
    split at ha
    · rename_i e he0
      obtain ⟨dst, op, type, pos, after, guard⟩ := oi
      simp only at he0
      subst he0
      simp only [compOp] at h
      split at h
      · cases h; cases hq
      · simp only [bind, Option.bind_eq_some_iff, Option.some.injEq] at h
        obtain ⟨_, _, e⟩ := h
        rw [← e] at hq
        cases hq
    · simp at ha

/-- the boxes that were made lie behind what is to be kept -/
def FrOK (fr : List Nat) (refs : List World) (a : Act) : Prop := ∀ t ∈ fr, ∃ (blk off : Nat), a.eval (.tmp t) = .pointer (some ⟨blk, off, none⟩) ∧ ∀ r ∈ refs, r.heap.size ≤ blk
theorem FrOK.nil {refs : List World} {a : Act} : FrOK [] refs a := fun t h => by cases h

theorem drawn_ok {fm b : Bool} {k0 : Nat} (hk0 : K0.n ≤ k0) {K : St → Prop} {as : List AOper} (hs : Region.noSelect ops = true) (has : ops.toList.mapM (compOper P ops) = some as) (hQ : ∀ s' a' w', K s' → HR Γ E K0 N s' a' w' → Q .normal a' w') (hQp : ∀ c a w, ¬ Q (.panic c) a w) :
    ∀ (fuel m : Nat) (tail : Bool) (fr : List Nat) (listed : Array Bool) (l : DT) (refs : List World) (s : St) (a : Act) (w : World), FrOK fr refs a → plan P fm b ops as.toArray fuel m tail fr listed = some l → l.fits N = true → Closed ops listed →
      evT P Γ k0 K l s → HR Γ E K0 N s a w → (tail = false → Old refs w) →
      wpAnyG P .any ops Q (Old refs) (fun j => kindOf P fm b ops as.toArray j == 1 && !quietA as.toArray j) (quietA as.toArray) fuel listed a w := by
  intro fuel
  induction fuel with
  | zero =>
    intro m tail fr listed l refs s a w hfr hp hfit hcl he hr hold
    simp only [plan] at hp
    split at hp
    · rename_i hready
      simp only [Option.some.injEq] at hp
      subst hp
      obtain ⟨s', hw, he⟩ := he
      exact ⟨hready, hQ _ _ _ he (hr.weak hk0 hw)⟩
    · cases hp
  | succ fuel ih =>
    intro m tail fr listed l refs s a w hfr hp hfit hcl he hr hold
    -- one that comes up, whatever the others are
    have must : ∀ (m' i : Nat) (t : DT) (s : St) (a : Act) (w : World), FrOK fr refs a → i ∈ Region.ready .any ops listed → (if kindOf P fm b ops as.toArray i = 2 then match as.toArray[i]?, plan P fm b ops as.toArray fuel m' true [] (listed.setIfInBounds i true) with
          | some a, some t => some (DT.cons (a, 2, i) t)
          | _, _ => none
        else if tail && !((as.toArray[i]?).map (·.op.quiet)).getD false then none else match boxStore fm ops i with
          | some c => if fr.contains c then match as.toArray[i]?, plan P fm b ops as.toArray fuel m' tail (frNext fm ops fr i) (listed.setIfInBounds i true) with
            | some a, some t => some (DT.cons (a, 3, i) t)
            | _, _ => none else none
          | none => match as.toArray[i]?, plan P fm b ops as.toArray fuel m' tail (frNext fm ops fr i) (listed.setIfInBounds i true) with
            | some a, some t => some (DT.cons (a, 1, i) t)
            | _, _ => none) = some t → t.fits N = true → evT P Γ k0 K t s → HR Γ E K0 N s a w → (tail = false → Old refs w) →
        wpOp P ops Q i (fun a' w' => (((kindOf P fm b ops as.toArray i == 1 && !quietA as.toArray i) = true → Old refs w') ∧ (quietA as.toArray i = true → w' = w)) ∧
          wpAnyG P .any ops Q (Old refs) (fun j => kindOf P fm b ops as.toArray j == 1 && !quietA as.toArray j) (quietA as.toArray) fuel (listed.setIfInBounds i true) a' w') a w := by
      intro m' i t s a w hfr hmem hp hfit he hr hold
      split at hp
      · rename_i hkind
        split at hp
        · rename_i ao l' hai hpl
          simp only [Option.some.injEq] at hp
          subst hp
          obtain ⟨oi, hoi, hc⟩ := getA has i ao hai
          obtain ⟨f1, f2⟩ := fits_cons hfit
          refine evOp_ok hk0 hoi hc f1 (evT_cons he) hr fun s' a' w' hk hr' hkept hq => ⟨⟨fun hw => ?_, fun hw => ?_⟩, ih m' true [] _ l' refs s' a' w' .nil hpl f2 (hcl.next hmem) hk hr' (fun h => by cases h)⟩
          · simp only [hkind] at hw
            cases hw
          · simp only [quietA, hai, Option.map_some, Option.getD_some] at hw
            exact hq hw
        · cases hp
      · rename_i hkind
        split at hp
        · cases hp
        · rename_i htail
          split at hp
          · -- a store into a box that the region has made
            rename_i c hbs
            split at hp
            · rename_i hfc
              split at hp
              · rename_i ao l' hai hpl
                simp only [Option.some.injEq] at hp
                subst hp
                obtain ⟨oi, hoi, hc⟩ := getA has i ao hai
                obtain ⟨f1, f2⟩ := fits_cons hfit
                obtain ⟨tt, xx, hop, hgd⟩ : ∃ tt xx, oi.op = .store tt (.tmp c) xx ∧ oi.guard = none := by
                  unfold boxStore at hbs
                  split at hbs
                  · simp only [hoi] at hbs
                    split at hbs
                    · rename_i t0 t1 t2 e
                      split at hbs
                      · rename_i hcnd
                        cases hbs
                        rw [Bool.and_eq_true] at hcnd
                        exact ⟨_, _, e, by simpa using hcnd.1⟩
                      · cases hbs
                    · cases hbs
                  · cases hbs
                obtain ⟨blk, off, hev, hsz⟩ := hfr c (by simpa using hfc)
                have he' := evT_cons he
                -- what the store does
                obtain ⟨s1, hw1, he1⟩ := id he'
                have hr1 := hr.weak hk0 hw1
                obtain ⟨μ, κ, H, HE, F, hdf, hN⟩ := hr1
                obtain ⟨hop0, hd, hwt, hwt2⟩ := wanted_of hc HE
                have hao : ao.guard = none := guard_none hc hgd
                unfold evOp0 at he1
                rw [hao] at he1
                simp only at he1
                have hfrm : ∃ w2, (execOp a.eval oi).run P w = .ok .skip w2 ∧ w2.heap.size = w.heap.size ∧ ∀ k, k ≠ blk → w2.heap[k]? = w.heap[k]? := by
                  rcases hop0 with ⟨hop1, _⟩ | hbad
                  · obtain ⟨m0, p0, x0, hsop⟩ : ∃ m0 p0 x0, ao.op = .store m0 p0 x0 := by
                      have := hop1
                      obtain ⟨dst, op, type, pos, after, guard⟩ := oi
                      simp only at hop
                      subst hop
                      simp only [compOp, bind, Option.bind_eq_some_iff, Option.some.injEq] at this
                      obtain ⟨m0, _, p0, _, x0, _, e⟩ := this
                      exact ⟨m0, p0, x0, e.symm⟩
                    have hst : ∃ r, step2 Γ s1 ao.op = some r := by
                      unfold evAct at he1
                      rw [hsop] at he1 ⊢
                      simp only [step1] at he1
                      cases h2 : step2 Γ s1 (.store m0 p0 x0) with
                      | some r => exact ⟨r, rfl⟩
                      | none =>
                        rw [h2] at he1
                        simp only [eqnC, NextTo] at he1
                    obtain ⟨⟨v2, h2, n2⟩, hst⟩ := hst
                    obtain ⟨dst, op, type, pos, after, guard⟩ := oi
                    simp only at hop
                    subst hop
                    obtain ⟨blk', off', w2, q1, q2, q3, q4⟩ := store_frame H HE hop1 hst
                    rw [hev] at q1
                    cases q1
                    exact ⟨w2, q2, q3, q4⟩
                  · exact absurd he1 (evAct_bad hbad)
                obtain ⟨w2, g1, g2, g3⟩ := hfrm
                have hold0 : Old refs w → Old refs w2 := fun h r hr => ⟨by rw [g2]; exact (h r hr).1, fun k hk => by rw [g3 k (by have := hsz r hr; omega)]; exact (h r hr).2 k hk⟩
                have hwn : Region.wanted oi (yielded ops a.tmps) = true := hwt hao
                have base := evOp_ok hk0 hoi hc f1 he' hr (Kc := fun a' w' => ∃ s', evT P Γ k0 K l' s' ∧ HR Γ E K0 N s' a' w') (Q := Q) fun s' a' w' hk hr' _ _ => ⟨s', hk, hr'⟩
                have base2 := wpOp_with (X := fun a' w' => w' = w2 ∧ ∀ t, oi.dst ≠ some t → a'.eval (.tmp t) = a.eval (.tmp t)) hoi (fun n w' hrn b v w'' hb _ hs => by
                  rw [g1] at hrn
                  cases hrn
                  exact ⟨hs rfl, fun t ht => put_other hb ht⟩) (fun hnw => by rw [hwn] at hnw; cases hnw) base
                have hq0 : quietA as.toArray i = false := by
                  simp only [quietA, hai, Option.map_some, Option.getD_some]
                  rcases hop0 with ⟨hop1, _⟩ | hbad
                  · obtain ⟨dst, op, type, pos, after, guard⟩ := oi
                    simp only at hop
                    subst hop
                    simp only [compOp, bind, Option.bind_eq_some_iff, Option.some.injEq] at hop1
                    obtain ⟨m0, _, p0, _, x0, _, e⟩ := hop1
                    rw [← e]
                    rfl
                  · rw [hbad]; rfl
                have htl : tail = false := by
                  simp only [hai, Option.map_some, Option.getD_some] at htail
                  simp only [quietA, hai, Option.map_some, Option.getD_some] at hq0
                  rw [hq0] at htail
                  simpa using htail
                refine wpOp_mono (fun a' w' h => ?_) base2
                obtain ⟨⟨s', hk, hr'⟩, rfl, htm⟩ := h
                have hold1 := hold0 (hold htl)
                refine ⟨⟨fun _ => hold1, fun hq => by rw [hq0] at hq; cases hq⟩, ih m' tail _ _ l' refs s' a' _ (fun t ht => ?_) hpl f2 (hcl.next hmem) hk hr' (fun _ => hold1)⟩
                have htf : t ∈ fr ∧ oi.dst ≠ some t := fr_other hoi (by unfold isAlloc; rw [hop]; rfl) ht
                obtain ⟨b1, o1, e1, e2⟩ := hfr t htf.1
                exact ⟨b1, o1, by rw [htm t htf.2]; exact e1, e2⟩
              · cases hp
            · cases hp
          · split at hp
            · rename_i ao l' hai hpl
              simp only [Option.some.injEq] at hp
              subst hp
              obtain ⟨oi, hoi, hc⟩ := getA has i ao hai
              obtain ⟨f1, f2⟩ := fits_cons hfit
              have he' := evT_cons he
              simp only [BEq.rfl] at he'
              have base := evOp_ok hk0 hoi hc f1 he' hr (Kc := fun a' w' => ∃ s', evT P Γ k0 K l' s' ∧ HR Γ E K0 N s' a' w' ∧ Kept true w w' ∧ (ao.op.quiet = true → w' = w)) (Q := Q) fun s' a' w' hk hr' hkept hq => ⟨s', hk, hr', hkept, hq⟩
              obtain ⟨μ, κ, H, HE, F, hdf, hN⟩ := id hr
              obtain ⟨hop0, hd, hwt, hwt2⟩ := wanted_of hc HE
              have hfd : ∀ d, oi.dst = some d → d < a.tmps.size := fun d h => by
                have hx : fitsD N ao = true := f1
                unfold fitsD at hx
                rw [hd, h] at hx
                exact Nat.lt_of_lt_of_le (by simpa using hx) hN
              have base2 := wpOp_with (X := fun a' w' => (∀ t, oi.dst ≠ some t → a'.eval (.tmp t) = a.eval (.tmp t)) ∧ (isAlloc oi = true → ∀ d, oi.dst = some d → a'.eval (.tmp d) = .pointer (some ⟨w.heap.size, 0, none⟩))) hoi (fun n w' hrn b v w'' hb hv _ => by
                refine ⟨fun t ht => put_other hb ht, fun hal d hdd => ?_⟩
                obtain ⟨e, he0⟩ : ∃ e, oi.op = .alloc e := by
                  unfold isAlloc at hal
                  split at hal
                  · rename_i e h; exact ⟨e, h⟩
                  · simp at hal
                have hvv := hv _ (alloc_run he0 hrn)
                rw [hdd, hvv.1]
                exact put_same (by rw [hb]; exact hfd d hdd)) (fun hnw => ⟨fun t ht => put_other rfl ht, fun hal => by
                have : oi.guard = none := by
                  unfold isAlloc at hal
                  rw [Bool.and_eq_true] at hal
                  simpa using hal.2
                have hw := hwt (guard_none hc this)
                rw [hw] at hnw
                cases hnw⟩) base
              refine wpOp_mono (fun a' w' h => ?_) base2
              obtain ⟨⟨s', hk, hr', hkept, hq⟩, htm, hal⟩ := h
              refine ⟨⟨fun hw => ?_, fun hw => ?_⟩, ih m' tail _ _ l' refs s' a' w' ?_ hpl f2 (hcl.next hmem) hk hr' (fun ht => (hold ht).keep (hkept rfl))⟩
              · simp only [quietA, hai, Option.map_some, Option.getD_some, Bool.and_eq_true, Bool.not_eq_true'] at hw
                simp only [hai, Option.map_some, Option.getD_some, hw.2, Bool.not_false, Bool.and_true, Bool.not_eq_true] at htail
                exact (hold htail).keep (hkept rfl)
              · simp only [quietA, hai, Option.map_some, Option.getD_some] at hw
                exact hq hw
              · intro t ht
                rcases fr_cases hoi ht with ⟨h1, h2⟩ | ⟨h1, h2⟩
                · obtain ⟨b1, o1, e1, e2⟩ := hfr t h1
                  exact ⟨b1, o1, by rw [htm t h2]; exact e1, e2⟩
                · refine ⟨w.heap.size, 0, hal h1 t h2, fun r hr => ?_⟩
                  have hnq : ao.op.quiet = false := by
                    cases hq0 : ao.op.quiet with
                    | false => rfl
                    | true =>
                      exfalso
                      obtain ⟨e, he0⟩ : ∃ e, oi.op = .alloc e := by
                        unfold isAlloc at h1
                        split at h1
                        · rename_i e h; exact ⟨e, h⟩
                        · simp at h1
                      rcases hop0 with ⟨hop1, _⟩ | hbad
                      · obtain ⟨dst, op, type, pos, after, guard⟩ := oi
                        simp only at he0
                        subst he0
                        simp only [compOp] at hop1
                        split at hop1
                        · rw [← Option.some.inj hop1] at hq0
                          cases hq0
                        · simp only [bind, Option.bind_eq_some_iff, Option.some.injEq] at hop1
                          obtain ⟨_, _, e⟩ := hop1
                          rw [← e] at hq0
                          cases hq0
                      · rw [hbad] at hq0; cases hq0
                  simp only [hai, Option.map_some, Option.getD_some, hnq, Bool.not_false, Bool.and_true, Bool.not_eq_true] at htail
                  exact (hold htail r hr).1
            · cases hp
    simp only [plan] at hp
    split at hp
    · rename_i i hfind
      split at hp
      · rename_i ao l' hai hpl
        simp only [Option.some.injEq] at hp
        subst hp
        have hmem := List.mem_of_find?_eq_some hfind
        have hpr := List.find?_some hfind
        simp only [Bool.and_eq_true, hai, Option.map_some, Option.getD_some] at hpr
        obtain ⟨⟨hft, htr0⟩, hfree⟩ := hpr
        have hft0 := hft
        simp only [ft, hai, Option.map_some, Option.getD_some, Bool.and_eq_true] at hft
        obtain ⟨hquiet, hrds⟩ := hft
        obtain ⟨oi, hoi, hc⟩ := getA has i ao hai
        obtain ⟨f1, hfitl⟩ := fits_cons hfit
        obtain ⟨s, hws, he⟩ := evT_cons0 he
        replace hr := hr.weak hk0 hws
        obtain ⟨v, hv, he⟩ := evLookTo_ok he
        obtain ⟨μ, κ, H, HE, F, hdf, hN⟩ := id hr
        obtain ⟨hop0, hd, hw0, hw1⟩ := wanted_of hc HE
        obtain ⟨hop, hcf⟩ : compOp P oi = some ao.op ∧ callFits ao.op oi = true := by
          rcases hop0 with h | h
          · exact h
          · rw [h] at hquiet; cases hquiet
        have hfit' : ∀ k, oi.dst = some k → k < N := by
          intro k hk
          have : fitsD N ao = true := f1
          unfold fitsD at this
          rw [hd, hk] at this
          simpa using this
        have hy : ∃ cv, RelV (ctx E w μ κ s.h s.n) v cv ∧ YieldsIf P ops (fun w' => ao.op.reads = true → Old [w] w') oi cv a := by
          have look : step1 Γ s ao.op = some v → Region.wanted oi (yielded ops a.tmps) = true → ∃ cv, RelV (ctx E w μ κ s.h s.n) v cv ∧ YieldsIf P ops (fun w' => ao.op.reads = true → Old [w] w') oi cv a := by
            intro hst hwant
            obtain ⟨cv, h1, h2⟩ := step1_ok H HE hop hst
            exact ⟨cv, h1, .inl ⟨hwant, fun w' hw' => h2 w' fun hrd k hk => ((hw' hrd w (List.mem_singleton.2 rfl)).2 k hk)⟩⟩
          have skip : v = .tup [] → Region.wanted oi (yielded ops a.tmps) = false → ∃ cv, RelV (ctx E w μ κ s.h s.n) v cv ∧ YieldsIf P ops (fun w' => ao.op.reads = true → Old [w] w') oi cv a := by
            rintro rfl hwant
            exact ⟨undef, relV_undef, .inr ⟨hwant, rfl⟩⟩
          unfold evLook at hv
          split at hv
          · rename_i hg
            exact look hv (hw0 hg)
          · rename_i d want hg
            obtain ⟨g1, g2⟩ := hw1 d want hg
            split at hv
            · rename_i b hb
              split at hv
              · rename_i hbw
                exact look hv (by rw [g1 b hb]; simpa using hbw)
              · rename_i hbw
                cases hv
                exact skip rfl (by rw [g1 b hb]; simpa using hbw)
            · rename_i hb
              cases hv
              exact skip rfl (g2 hb)
            · cases hv
        obtain ⟨cv, hrel, hyi⟩ := hy
        have hrput : HR Γ E K0 N (s.put ao.dst (some v)) (a.put oi.dst cv) w := by rw [hd]; exact HR.put (env := s.env) (h := s.h) (n := s.n) H HE F hdf hN hfit' fun x hx => by cases hx; exact hrel
        cases hrd : ao.op.reads with
        | true =>
          rw [hrd] at htr0
          simp only [Bool.and_true, Bool.not_eq_true', Bool.or_eq_false_iff, Bool.not_eq_false', List.isEmpty_iff] at htr0
          obtain ⟨rfl, rfl⟩ := htr0
          have hold := hold rfl
          refine wpAnyG_take (T := Old [w]) hoi hs hfree hmem hcl (fun j hji hj => ?_) (fun c a w h => absurd h (hQp _ _ _)) (hyi.imp (fun ⟨h1, h2⟩ => ⟨h1, fun w' hw' => h2 w' fun _ => hw'.2⟩) id) hold (fun r hr => by rw [List.mem_singleton.1 hr]; exact ⟨Nat.le_refl _, fun _ _ => rfl⟩) ?_
          · simp only [Bool.and_eq_false_iff, Bool.not_eq_false'] at hj
            rcases hj with hj | hj
            · refine .inr ⟨8, ?_⟩
              have hj2 : kindOf P fm b ops as.toArray j ≠ 1 := by simpa using hj
              unfold kindOf at hj2
              simp only at hj2
              split at hj2
              · rename_i hall
                rw [Bool.and_eq_true] at hall
                replace hall := hall.2
                have hlt : i < ops.size := (Array.getElem?_eq_some_iff.1 hoi).1
                have := List.all_eq_true.1 hall i (List.mem_range.2 hlt)
                simp only [hft0, hai, Option.map_some, Option.getD_some, Bool.true_and, Bool.or_eq_true, Bool.not_eq_true', List.contains_iff_mem, beq_iff_eq] at this
                rcases this with (h | h) | h
                · exact absurd h.symm hji
                · rw [hrd] at h; cases h
                · exact h
              · exact absurd rfl hj2
            · exact .inl hj
          · have hrec := ih m false (frNext fm ops [] i) (listed.setIfInBounds i true) l' (w :: refs) _ (a.put oi.dst cv) w (fun t ht => by
              rcases fr_cases hoi ht with ⟨h1, _⟩ | ⟨h1, _⟩
              · cases h1
              · exact absurd h1 (by rw [not_alloc hop hquiet]; simp)) hpl hfitl (hcl.next hmem) he hrput
              (fun _ r hr => by
                rcases List.mem_cons.1 hr with rfl | hr
                · exact ⟨Nat.le_refl _, fun _ _ => rfl⟩
                · exact hold r hr)
            exact wpAnyG_mono (fun w' h => ⟨fun r hr => h r (List.mem_cons_of_mem _ hr), fun r hr => by rw [List.mem_singleton.1 hr]; exact h w (List.mem_cons_self ..)⟩) _ _ _ _ hrec
        | false =>
          have hml : quietA as.toArray i = true := by simp only [quietA, hai, Option.map_some, Option.getD_some, hquiet]
          refine wpAnyG_first0 hoi (Region.noSelect_spec hs) (fun c a w h => absurd h (hQp _ _ _)) (by rw [hml]; simp) fuel listed a w hcl (Region.free_spec hoi hfree) hmem (hyi.imp (fun ⟨h1, h2⟩ => ⟨h1, fun w' _ => h2 w' fun h => by rw [hrd] at h; cases h⟩) id) ?_
          exact ih m tail _ (listed.setIfInBounds i true) l' refs _ (a.put oi.dst cv) w (fun t ht => by
            rcases fr_cases hoi ht with ⟨h1, h2⟩ | ⟨h1, _⟩
            · obtain ⟨b1, o1, e1, e2⟩ := hfr t h1
              exact ⟨b1, o1, by rw [put_other rfl h2]; exact e1, e2⟩
            · exact absurd h1 (by rw [not_alloc hop hquiet]; simp)) hpl hfitl (hcl.next hmem) he hrput hold
      · cases hp
    · split at hp
      · rename_i i hrs
        refine ⟨fun h => (by rw [hrs] at h; cases h), fun j hj => ?_⟩
        have hj0 := hj
        rw [hrs, List.mem_singleton] at hj
        subst hj
        exact must _ j l s a w hfr hj0 hp hfit he hr hold
      · rename_i i j m' hrs
        split at hp
        · rename_i ta tb h1 h2
          simp only [Option.some.injEq] at hp
          subst hp
          simp only [DT.fits, List.all_nil, Bool.true_and, Bool.and_eq_true] at hfit
          obtain ⟨s', hw', he1, he2⟩ := he
          replace hr := hr.weak hk0 hw'
          refine ⟨fun h => (by rw [hrs] at h; cases h), fun k hk => ?_⟩
          have hk0' := hk
          rw [hrs] at hk
          rcases List.mem_cons.1 hk with rfl | hk
          · exact must _ k ta s' a w hfr hk0' h1 hfit.1 he1 hr hold
          · rw [List.mem_singleton] at hk
            subst hk
            exact must _ k tb s' a w hfr hk0' h2 hfit.2 he2 hr hold
        · cases hp
      · cases hp

theorem region_draw_ok {k0 : Nat} (hk0 : K0.n ≤ k0) {K : St → Prop} {s : St} {a : Act} {w : World} {id : Nat} {l : DT} (hm : P.follows .mixedOrders = true) (hc : compRegion P ops true = some (.drawn l)) (hfit : l.fits N = true)
    (he : evT P Γ k0 K l s) (hr : HR Γ E K0 N s a w) (hQ : ∀ s' a' w', K s' → HR Γ E K0 N s' a' w' → Q .normal a' w') (hQp : ∀ c a w, ¬ Q (.panic c) a w) : (Code.region id ops true).wp P Q a w := by
  simp only [compRegion, bind, Option.bind_eq_some_iff, if_true] at hc
  obtain ⟨as, has, hc⟩ := hc
  split at hc
  · rename_i hns
    simp only [Option.bind_eq_some_iff, Option.some.injEq, ACode.drawn.injEq] at hc
    obtain ⟨l', hpl, rfl⟩ := hc
    obtain ⟨fm, b, hpl⟩ := planAny_some P hpl
    refine wp_region_any hm (wpAny_of_G _ _ _ _ (drawn_ok (Γ := Γ) (E := E) (K0 := K0) (N := N) hk0 (K := K) hns has hQ hQp ops.size 6 false [] _ l' [] s a _ .nil hpl hfit (fun j hj => ?_) he ?_ (fun _ r hr => by cases hr)))
    · rw [Array.getD_eq_getD_getElem?, Array.getElem?_replicate] at hj
      split at hj <;> simp at hj
    · obtain ⟨μ, κ, H, HE, F, hdf, hN⟩ := hr
      obtain ⟨H1, F1⟩ := H.drew (w.drawn + 1)
      exact ⟨μ, κ, H1, HE.mono F1.le, F.trans F1, hdf, hN⟩
  · cases hc

end
end Go.Proofs.YtolmbcngghkfiaaDoorBv
