/- The calculus: regions in order, code, and functions: from the conditions to the model's calls. It proves nothing of any program. -/
import Derived.Test.YtolmbcngghkfiaaDoorBv14
namespace Go.Proofs.YtolmbcngghkfiaaDoorBv
open Go
set_option linter.unusedVariables false
set_option linter.unusedSimpArgs false

section
variable {P : Program} {Γ : Glob} {E : Nat → Prop} {K0 : Ctx} {N : Nat} {s : St} {a : Act} {w : World} {ops : Array Oper} {Q : Exit → Act → World → Prop}

theorem keeps_empty {env : Nat → Option AV} {h : Heap} {n : Nat} {ao : AOp} {v : Option AV} {h' : Heap} {n' : Nat} (hk : ao.keeps = true) (hs : step2 Γ ⟨env, h, n⟩ ao = some (v, h', n')) :
    ∃ h'', step2 Γ ⟨env, fun _ => none, n⟩ ao = some (v, h'', n') := by
  cases ao <;> simp only [AOp.keeps, Bool.false_eq_true] at hk
  all_goals simp only [step2] at hs ⊢
  · split at hs
    · simp only [Option.some.injEq, Prod.mk.injEq] at hs
      obtain ⟨rfl, rfl, rfl⟩ := hs
      exact ⟨_, rfl⟩
    · cases hs
  · simp only [bind, Option.bind_eq_some_iff, Option.some.injEq, Prod.mk.injEq] at hs
    obtain ⟨l, hl, es, hes, rfl, rfl, rfl⟩ := hs
    rename_i sz z len ps
    refine ⟨upd (fun _ => none) n (some (.cells sz es)), ?_⟩
    simp only [hl, hes, bind, Option.bind_some]
  · split at hs
    · simp only [Option.some.injEq, Prod.mk.injEq] at hs
      obtain ⟨rfl, rfl, rfl⟩ := hs
      exact ⟨_, rfl⟩
    · cases hs
  · split at hs
    · rename_i p q hp hq
      split at hs
      · rename_i hc
        simp only [Option.some.injEq, Prod.mk.injEq] at hs
        obtain ⟨rfl, rfl, rfl⟩ := hs
        exact ⟨_, if_pos hc⟩
      · cases hs
    · cases hs
  · split at hs
    · simp only [Option.some.injEq, Prod.mk.injEq] at hs
      obtain ⟨rfl, rfl, rfl⟩ := hs
      exact ⟨_, rfl⟩
    · cases hs
  · simp only [Option.some.injEq, Prod.mk.injEq] at hs
    obtain ⟨rfl, rfl, rfl⟩ := hs
    exact ⟨_, rfl⟩
  · simp only [Option.some.injEq, Prod.mk.injEq] at hs
    obtain ⟨rfl, rfl, rfl⟩ := hs
    exact ⟨_, rfl⟩

theorem wanted_of {o : Oper} {ao : AOper} (hc : compOper P ops o = some ao) {K : Ctx} {env : Nat → Option AV} (HE : EnvOK K env a) :
    ((compOp P o = some ao.op ∧ callFits ao.op o = true) ∨ ao.op = .bad) ∧ ao.dst = o.dst ∧ (ao.guard = none → Region.wanted o (yielded ops a.tmps) = true) ∧
    ∀ d want, ao.guard = some (d, want) → (∀ b, env d = some (.c (.val (.bool b))) → Region.wanted o (yielded ops a.tmps) = (b == want)) ∧ (env d = some (.tup []) → Region.wanted o (yielded ops a.tmps) = false) := by
  simp only [compOper, bind] at hc
  obtain ⟨op, hop⟩ : ∃ op, ((compOp P o).filter (callFits · o)).getD .bad = op := ⟨_, rfl⟩
  rw [hop] at hc
  replace hop : (compOp P o = some op ∧ callFits op o = true) ∨ op = .bad := by
    cases hf : (compOp P o).filter (callFits · o) with
    | none => rw [hf] at hop; exact .inr hop.symm
    | some op' =>
      rw [hf] at hop
      obtain rfl : op' = op := hop
      exact .inl (Option.filter_eq_some_iff.1 hf)
  split at hc
  · rename_i hg
    simp only [Option.some.injEq] at hc
    subst hc
    exact ⟨hop, rfl, fun _ => by simp [Region.wanted, hg], fun d want h => by cases h⟩
  · rename_i j want hg
    simp only [Option.bind_eq_some_iff, Option.some.injEq] at hc
    obtain ⟨g, hgj, d, hd, rfl⟩ := hc
    refine ⟨hop, rfl, fun h => (by cases h), fun d' want' h => ?_⟩
    cases h
    have hy : yielded ops a.tmps j = match a.tmps[d]? with | some (.bool b) => some b | _ => none := by
      simp only [yielded, hgj, Option.bind_some, hd]
      rfl
    have hev : ∀ v, env d = some v → RelV K v (a.tmps.getD d undef) := fun v hv => HE d v hv
    constructor
    · intro b hb
      have h1 := relC_bool (relV_c (hev _ hb))
      have h2 : a.tmps[d]? = some (.bool b) := by
        rw [Array.getD_eq_getD_getElem?] at h1
        cases h3 : a.tmps[d]? with
        | none => rw [h3] at h1; cases h1
        | some x => rw [h3] at h1; simp at h1; rw [h1]
      simp only [Region.wanted, hg, hy, h2]
      cases b <;> cases want <;> rfl
    · intro hb
      obtain ⟨vs, h1, _⟩ := relV_tup (hev _ hb)
      have h2 : yielded ops a.tmps j = none := by
        rw [hy]
        rw [Array.getD_eq_getD_getElem?] at h1
        cases h3 : a.tmps[d]? with
        | none => rfl
        | some x => rw [h3] at h1; simp at h1; rw [h1]
      simp [Region.wanted, hg, h2]

theorem relV_undef {K : Ctx} : RelV K (.tup []) undef := .tup rfl (fun i x h => by simp at h)

theorem eqn_ok {Γ : Glob} {E : Nat → Prop} {w : World} {μ κ : Nat → Nat} {h : Heap} {n : Nat} {env : Nat → Option AV} (H : HeapOK Γ E w μ κ h n) (HE : EnvOK (ctx E w μ κ h n) env a) {o : Oper} {neg : Bool} {z : Arg} (hc : compOp P o = some (.eqn neg z))
    {nl : Bool} {sz : Nat} {xs : List (List Cel)} (hz : z.get Γ env = some (.c (.ro nl sz xs))) : ∃ b : Bool, (xs ≠ [] → b = neg) ∧ ∀ w', (execOp a.eval o).run P w' = .ok (.value (.bool b)) w' := by
  obtain ⟨dst, op, type, pos, after, guard⟩ := o
  by_cases hb : ∃ bop t x y yt, op = .binOp bop t x y yt
  · obtain ⟨bop, t, x, y, yt, rfl⟩ := hb
    exact eqn_bin H HE hc hz
  · exfalso
    cases op with
    | binOp bop t x y yt => exact hb ⟨_, _, _, _, _, rfl⟩
    | call c =>
      obtain ⟨callee, args, argTypes⟩ := c
      cases callee with
      | invoke r m => simp [compOp] at hc
      | value f =>
        cases f <;> simp only [compOp, bind, Option.bind_eq_some_iff, Option.some.injEq] at hc
        case func =>
          split at hc
          · simp only [Option.bind_eq_some_iff, Option.some.injEq] at hc
            obtain ⟨_, _, h⟩ := hc
            cases h
          · cases hc
        all_goals
          obtain ⟨_, _, _, _, h⟩ := hc
          cases h
      | builtin b =>
        cases b <;> simp only [compOp] at hc
        all_goals try (cases hc; done)
        all_goals try (obtain ⟨_, _, h⟩ := Option.map_eq_some_iff.1 hc; cases h; done)
        all_goals
          try simp only [bind] at hc
          repeat' split at hc
          all_goals try (cases hc; done)
          all_goals try simp only [Option.bind_eq_some_iff, Option.map_eq_some_iff] at hc
          all_goals try (obtain ⟨_, _, h⟩ := hc; cases h; done)
          all_goals
            obtain ⟨_, _, _, _, _, _, _, _, hc⟩ := hc
            first
              | (obtain ⟨_, _, h⟩ := hc; cases h; done)
              | (repeat' split at hc
                 all_goals cases hc)
    | next it b => cases b <;> simp [compOp, Option.map_eq_some_iff] at hc
    | makeMap t r => cases r <;> simp [compOp, Option.map_eq_some_iff] at hc
    | _ =>
      simp only [compOp, bind] at hc
      repeat' split at hc
      all_goals try (cases hc; done)
      all_goals try simp only [Option.bind_eq_some_iff, Option.map_eq_some_iff, Option.some.injEq] at hc
      all_goals try (obtain ⟨_, _, h⟩ := hc; cases h; done)
      all_goals try (obtain ⟨_, _, _, _, h⟩ := hc; cases h; done)
      all_goals try (obtain ⟨_, _, _, _, _, _, h⟩ := hc; cases h; done)
      all_goals try (obtain ⟨_, _, _, _, _, _, _, _, h⟩ := hc; cases h; done)
      all_goals
        try obtain ⟨_, _, hc⟩ := hc
        try obtain ⟨_, _, hc⟩ := hc
        try obtain ⟨_, _, hc⟩ := hc
        try obtain ⟨_, _, hc⟩ := hc
        repeat' split at hc
        all_goals try (cases hc; done)
        all_goals try simp only [Option.bind_eq_some_iff, Option.map_eq_some_iff, Option.some.injEq] at hc
        all_goals try (obtain ⟨_, _, h⟩ := hc; cases h; done)
        all_goals try (obtain ⟨_, _, _, _, h⟩ := hc; cases h; done)

theorem nextM_inv {o : Oper} {x : Arg} (hc : compOp P o = some (.nextM x)) : ∃ it, o.op = .next it false ∧ compArg P 0 it = some x := by
  obtain ⟨dst, op, type, pos, after, guard⟩ := o
  by_cases hb : ∃ it, op = .next it false
  · obtain ⟨it, rfl⟩ := hb
    simp only [compOp] at hc
    obtain ⟨y, hy, e⟩ := Option.map_eq_some_iff.1 hc
    cases e
    exact ⟨it, rfl, hy⟩
  · exfalso
    cases op with
    | call c =>
      obtain ⟨callee, args, argTypes⟩ := c
      cases callee with
      | invoke r m => simp [compOp] at hc
      | value f =>
        cases f <;> simp only [compOp, bind, Option.bind_eq_some_iff, Option.some.injEq] at hc
        case func =>
          split at hc
          · simp only [Option.bind_eq_some_iff, Option.some.injEq] at hc
            obtain ⟨_, _, h⟩ := hc
            cases h
          · cases hc
        all_goals
          obtain ⟨_, _, _, _, h⟩ := hc
          cases h
      | builtin b =>
        cases b <;> simp only [compOp] at hc
        all_goals try (cases hc; done)
        all_goals try (obtain ⟨_, _, h⟩ := Option.map_eq_some_iff.1 hc; cases h; done)
        all_goals
          try simp only [bind] at hc
          repeat' split at hc
          all_goals try (cases hc; done)
          all_goals try simp only [Option.bind_eq_some_iff, Option.map_eq_some_iff] at hc
          all_goals try (obtain ⟨_, _, h⟩ := hc; cases h; done)
          all_goals
            obtain ⟨_, _, _, _, _, _, _, _, hc⟩ := hc
            first
              | (obtain ⟨_, _, h⟩ := hc; cases h; done)
              | (repeat' split at hc
                 all_goals cases hc)
    | binOp bop t x1 y1 yt =>
      simp only [compOp, compBin, bind] at hc
      repeat' split at hc
      all_goals try (cases hc; done)
      all_goals try simp only [Option.bind_eq_some_iff, Option.map_eq_some_iff, Option.some.injEq] at hc
      all_goals try (obtain ⟨_, _, _, _, h⟩ := hc; cases h; done)
      all_goals
        obtain ⟨_, _, _, _, hc⟩ := hc
        unfold compEq at hc
        simp only [bind] at hc
        repeat' split at hc
        all_goals try (cases hc; done)
        all_goals try simp only [Option.bind_eq_some_iff, Option.map_eq_some_iff, Option.some.injEq] at hc
        all_goals try (obtain ⟨_, _, h⟩ := hc; cases h; done)
        all_goals try (obtain ⟨_, _, _, _, h⟩ := hc; cases h; done)
        all_goals try (obtain ⟨_, _, hc⟩ := hc; repeat' split at hc)
        all_goals try (cases hc; done)
        all_goals try simp only [Option.bind_eq_some_iff, Option.map_eq_some_iff, Option.some.injEq] at hc
        all_goals try (obtain ⟨_, _, h⟩ := hc; cases h; done)
    | next it b =>
      cases b with
      | false => exact hb ⟨_, rfl⟩
      | true => simp [compOp, Option.map_eq_some_iff] at hc
    | makeMap t r => cases r <;> simp [compOp, Option.map_eq_some_iff] at hc
    | _ =>
      simp only [compOp, bind] at hc
      repeat' split at hc
      all_goals try (cases hc; done)
      all_goals try simp only [Option.bind_eq_some_iff, Option.map_eq_some_iff, Option.some.injEq] at hc
      all_goals try (obtain ⟨_, _, h⟩ := hc; cases h; done)
      all_goals try (obtain ⟨_, _, _, _, h⟩ := hc; cases h; done)
      all_goals try (obtain ⟨_, _, _, _, _, _, h⟩ := hc; cases h; done)
      all_goals try (obtain ⟨_, _, _, _, _, _, _, _, h⟩ := hc; cases h; done)
      all_goals
        try obtain ⟨_, _, hc⟩ := hc
        try obtain ⟨_, _, hc⟩ := hc
        try obtain ⟨_, _, hc⟩ := hc
        try obtain ⟨_, _, hc⟩ := hc
        repeat' split at hc
        all_goals try (cases hc; done)
        all_goals try simp only [Option.bind_eq_some_iff, Option.map_eq_some_iff, Option.some.injEq] at hc
        all_goals try (obtain ⟨_, _, h⟩ := hc; cases h; done)
        all_goals try (obtain ⟨_, _, _, _, h⟩ := hc; cases h; done)
/-- one entry less is left -/
theorem filter_one : ∀ (L : List MapEntry) (i : Nat) (e : MapEntry), L[i]? = some e → (L.map (·.born)).Nodup → L.filter (fun x => !(x.born == e.born)) = L.eraseIdx i
  | [], i, e, h, _ => by simp at h
  | x :: r, 0, e, h, hn => by
    simp at h
    subst h
    rw [List.map_cons, List.nodup_cons] at hn
    rw [List.filter_cons_of_neg (by simp), List.eraseIdx_zero, List.tail_cons, List.filter_eq_self]
    intro y hy
    have : y.born ≠ x.born := fun e => hn.1 (by rw [← e]; exact List.mem_map_of_mem hy)
    simpa using this
  | x :: r, i + 1, e, h, hn => by
    rw [List.map_cons, List.nodup_cons] at hn
    have hr : r[i]? = some e := by simpa using h
    have : x.born ≠ e.born := fun q => hn.1 (by rw [q]; exact List.mem_map_of_mem (List.mem_of_getElem? hr))
    rw [List.filter_cons_of_pos (by simpa using this), filter_one r i e hr hn.2, List.eraseIdx_cons_succ]
theorem left_push {A : Array MapEntry} {seen : Array Nat} {i : Nat} {e : MapEntry} (hn : (A.toList.map (·.born)).Nodup) (h : (leftL A seen)[i]? = some e) : leftL A (seen.push e.born) = (leftL A seen).eraseIdx i := by
  have hs : ((leftL A seen).map (·.born)).Nodup := hn.sublist ((List.filter_sublist).map _)
  rw [← filter_one _ i e h hs]
  unfold leftL
  rw [List.filter_filter]
  congr 1
  funext x
  simp only [Array.contains_push, Bool.not_or]
  rw [Bool.and_comm]
/-- a step of a range over a map -/
theorem nextM_run {ty : TypeId} {Γ : Glob} {E : Nat → Prop} {w : World} {μ κ : Nat → Nat} {h : Heap} {n : Nat} (H : HeapOK Γ E w μ κ h n) {b : Nat} {m : MK} {la : Option (Cel × AV)} {es : List (Cel × AV)} (hb : h b = some (.mit m la es)) :
    (es = [] ∧ (Instr.next (.pointer (some ⟨μ b, 0, none⟩)) false ty).run P w = .ok (.tuple #[.bool false]) w) ∨
    ∃ (i : Nat) (p : Cel × AV) (w' : World), es[i]? = some p ∧ ∃ e : MapEntry, (Instr.next (.pointer (some ⟨μ b, 0, none⟩)) false ty).run P w = .ok (.tuple #[.bool true, e.key, e.val]) w' ∧
      HeapOK Γ E w' μ κ (upd h b (some (.mit m (some p) (es.eraseIdx i)))) n ∧ From E (ctx E w μ κ h n) (ctx E w' μ κ (upd h b (some (.mit m (some p) (es.eraseIdx i)))) n) ∧
      RelC (ctx E w' μ κ (upd h b (some (.mit m (some p) (es.eraseIdx i)))) n) p.1 e.key ∧ RelV (ctx E w' μ κ (upd h b (some (.mit m (some p) (es.eraseIdx i)))) n) p.2 e.val := by
  obtain ⟨r, A, c, seen, hB, ⟨hS, hA⟩, ⟨hbn, hlen⟩, hla, hes⟩ := H.blk b _ hb
  have hB' : w.heap[μ b]? = some (.mapIter (some r) c seen c) := hB
  have hA' : w.heap[r]? = some (.map A c) := hA
  have hsz : (Go.leftOf A seen).toList = leftL A seen := by unfold Go.leftOf leftL; rw [Array.toList_filter]
  rcases run_next_at (P := P) w ty (μ b) r c c seen A c hB' hA' hbn.1 (Nat.le_refl _) with ⟨h0, hrun⟩ | ⟨e, he, w1, hw1, hrun⟩
  · left
    refine ⟨List.eq_nil_of_length_eq_zero ?_, hrun⟩
    rw [← hlen, ← hsz, Array.length_toList]
    exact h0
  · right
    rw [hsz] at he
    obtain ⟨i, hi, hie⟩ := List.getElem_of_mem he
    have hget : (leftL A seen)[i]? = some e := by rw [List.getElem?_eq_getElem hi, hie]
    have hil : i < es.length := by rw [← hlen]; exact hi
    have hp := List.getElem?_eq_getElem hil
    obtain ⟨q0, e', q1, q2, q3⟩ := hes i es[i].1 es[i].2 hp
    rw [hget] at q1
    cases q1
    have hlt : μ b < w.heap.size := (Array.getElem?_eq_some_iff.1 hB').1
    have hrb : r ≠ μ b := fun q => by rw [q, hB'] at hA'; cases hA'
    have heA : e ∈ A.toList := (List.mem_filter.1 he).1
    have hh1 : w1.heap = w.heap := by rcases hw1 with rfl | rfl <;> rfl
    have ho1 : w1.os = w.os := by rcases hw1 with rfl | rfl <;> rfl
    have ht1 : w1.tape = w.tape := by rcases hw1 with rfl | rfl <;> rfl
    have hu1 : w1.output = w.output := by rcases hw1 with rfl | rfl <;> rfl
    have hnew : (ChangeMaps.setBlock w1 (μ b) (.mapIter (some r) c (seen.push e.born) c)).heap = w.heap.setIfInBounds (μ b) (.mapIter (some r) c (seen.push e.born) c) := by
      show w1.heap.setIfInBounds _ _ = _
      rw [hh1]
    have hne : ∀ k, k ≠ μ b → (ChangeMaps.setBlock w1 (μ b) (.mapIter (some r) c (seen.push e.born) c)).heap[k]? = w.heap[k]? := fun k hk => by
      rw [hnew]; simp [Array.getElem?_setIfInBounds, Ne.symm hk]
    have Lb : Ctx.Le (ctx E w μ κ h n).bare (ctx E (ChangeMaps.setBlock w1 (μ b) (.mapIter (some r) c (seen.push e.born) c)) μ κ (upd h b (some (.mit m (some es[i]) (es.eraseIdx i)))) n).bare :=
      ⟨Nat.le_refl _, fun b h => absurd h (Nat.not_lt_zero _), fun b h => absurd h (Nat.not_lt_zero _), fun k hk => ⟨by show k < (ChangeMaps.setBlock w1 _ _).heap.size; rw [hnew]; simpa using hk.1, hk.2.1, fun b' y hb' => by
        by_cases q : b' = b
        · subst q; exact hk.2.2 b' _ hb
        · rw [upd_ne _ _ q] at hb'; exact hk.2.2 b' y hb'⟩, fun k hk => hne k (Ne.symm (hk.2.2 b _ hb))⟩
    obtain ⟨H1, F1⟩ := H.write (w' := ChangeMaps.setBlock w1 (μ b) (.mapIter (some r) c (seen.push e.born) c)) (x' := .mit m (some es[i]) (es.eraseIdx i)) hb (by rw [hnew]; simp) ho1 ht1 hu1 hne (by
      refine ⟨r, A, c, seen.push e.born, ?_, ⟨Lb.S r hS, (hne r hrb).trans hA'⟩, ⟨hbn, ?_⟩, fun k v hk => ?_, fun j k v hj => ?_⟩
      · show (ChangeMaps.setBlock w1 _ _).heap[μ b]? = _
        rw [hnew, Array.getElem?_setIfInBounds_self_of_lt hlt]
      · rw [left_push hbn.2 hget, List.length_eraseIdx, List.length_eraseIdx, hlen]
      · obtain rfl : es[i].1 = k := congrArg Prod.fst (Option.some.inj hk)
        obtain rfl : es[i].2 = v := congrArg Prod.snd (Option.some.inj hk)
        exact ⟨e, seen, heA, rfl, q2.mono Lb, q3.mono Lb⟩
      · rw [left_push hbn.2 hget]
        rw [List.getElem?_eraseIdx] at hj ⊢
        split at hj
        · rename_i hlt2
          rw [if_pos hlt2]
          obtain ⟨g0, e1, g1, g2, g3⟩ := hes j k v hj
          exact ⟨g0, e1, g1, g2.mono Lb, g3.mono Lb⟩
        · rename_i hlt2
          rw [if_neg hlt2]
          obtain ⟨g0, e1, g1, g2, g3⟩ := hes (j + 1) k v hj
          exact ⟨g0, e1, g1, g2.mono Lb, g3.mono Lb⟩)
    exact ⟨i, es[i], _, hp, e, hrun, H1, F1, (q2.mono Lb).mono (Ctx.bare_le _), (q3.mono Lb).mono (Ctx.bare_le _)⟩

theorem evAct_ok {o : Oper} {ao : AOper} {keep : Bool} {K : St → Prop} {Kc : Act → World → Prop} (hop : compOp P o = some ao.op) (hcf : callFits ao.op o = true) (hd : ao.dst = o.dst) (hfit : fitsD N ao = true) (he : evAct P Γ keep ao K s) (hr : HR Γ E K0 N s a w)
    (hK : ∀ s' a' w', K s' → HR Γ E K0 N s' a' w' → Kept keep w w' → (ao.op.quiet = true → w' = w) → Kc a' w') : o.wp P a w Kc Q := by
  have hfit' : ∀ k, o.dst = some k → k < N := by
    intro k hk
    unfold fitsD at hfit
    rw [hd, hk] at hfit
    simpa using hfit
  have other : ∀ op : AOp, ao.op = op → (match step1 Γ s op with
      | some v => K (s.put ao.dst (some v))
      | none => match step2 Γ s op with
        | some (v, h', n') => (keep = true → op.keeps = true) ∧ K ((⟨s.env, h', n'⟩ : St).put ao.dst v)
        | none => match eqnC Γ s op with
          | some (neg, xs) => ∀ b : Bool, (xs ≠ [] → b = neg) → K (s.put ao.dst (some (.c (.val (.bool b)))))
          | none => NextTo Γ keep ao.dst K s op) → o.wp P a w Kc Q := by
    intro op hopp hm
    obtain ⟨μ, κ, H, HE, F, hdf, hN⟩ := hr
    rw [hopp] at hop
    split at hm
    · rename_i v hv
      obtain ⟨cv, hrel, hrun⟩ := step1_ok H HE hop hv
      unfold Oper.wp
      rw [hrun w (fun _ _ _ => rfl), Oper.upon_value]
      rw [hd] at hm
      exact hK _ _ _ hm (HR.put (env := s.env) (h := s.h) (n := s.n) H HE F hdf hN hfit' fun x hx => by cases hx; exact hrel) (.refl _ _) (fun _ => rfl)
    · split at hm
      · rename_i v h' n' hs2
        obtain ⟨hkp, hm⟩ := hm
        obtain ⟨w', μ', κ', nx, cv, hrun, hnx, H', F', hrel⟩ := step2_ok H HE hop hs2
        have hkept : Kept keep w w' := by
          intro hk
          obtain ⟨h'', hs3⟩ := keeps_empty (hkp hk) hs2
          obtain ⟨H1, e1⟩ := call_split H (h1 := fun _ => none) (fun b x hb => by cases hb)
          obtain ⟨w'', μ'', κ'', nx', cv', hrun', _, H'', F'', _⟩ := step2_ok H1 (by rw [e1]; exact HE) hop hs3
          rw [hrun] at hrun'
          cases hrun'
          refine ⟨F''.size, fun k hlt => ?_⟩
          by_cases hE : E k ∨ ∃ b x, s.h b = some x ∧ (none : Option Blk) = none ∧ μ b = k
          · exact F''.res k hE hlt
          · exact F''.le.heap k ⟨hlt, hE, fun b x hb => by cases hb⟩
        unfold Oper.wp
        rw [hrun]
        rw [hd] at hm
        have hput : HR Γ E K0 N ((⟨s.env, h', n'⟩ : St).put o.dst v) (a.put o.dst cv) w' := HR.put H' (HE.mono F'.le) (F.trans F') hdf hN hfit' hrel
        have hq : ao.op.quiet = true → w' = w := fun hq => by
          rw [hopp] at hq
          cases op <;> first | (cases hs2; done) | cases hq
        rcases hnx with rfl | ⟨rfl, rfl⟩
        · exact hK _ _ _ hm hput hkept hq
        · exact hK _ _ _ hm hput hkept hq
      · split at hm
        · rename_i neg xs he
          have hz : ∃ z sz, op = .eqn neg z ∧ z.get Γ s.env = some (.c (.ro false sz xs)) := by
            unfold eqnC at he
            split at he
            · rename_i neg' z'
              split at he
              · rename_i sz' xs' hg
                simp only [Option.some.injEq, Prod.mk.injEq] at he
                obtain ⟨rfl, rfl⟩ := he
                exact ⟨_, _, rfl, hg⟩
              · cases he
            · cases he
          obtain ⟨z, sz, rfl, hz⟩ := hz
          obtain ⟨b, hb, hrun⟩ := eqn_ok H HE hop hz
          unfold Oper.wp
          rw [hrun w, Oper.upon_value]
          have hm2 := hm b hb
          rw [hd] at hm2
          exact hK _ _ _ hm2 (HR.put (env := s.env) (h := s.h) (n := s.n) H HE F hdf hN hfit' fun x hx => by cases hx; exact .c (.val rfl)) (.refl _ _) (fun _ => rfl)
        · unfold NextTo at hm
          split at hm
          · rename_i xa
            split at hm
            · rename_i b hg
              split at hm
              · rename_i m la es hb
                obtain ⟨hkf, hm0, hm1⟩ := hm
                obtain ⟨it, hit, hx⟩ := nextM_inv hop
                obtain ⟨hbn, he⟩ := relC_ref (relV_c (arg_ok H HE hx hg))
                have he' : a.eval it = .pointer (some ⟨μ b, 0, none⟩) := by rw [he]; rfl
                have nk : ∀ w', Kept keep w w' := fun w' hk => by rw [hkf] at hk; cases hk
                have nq : ∀ w', ao.op.quiet = true → w' = w := fun w' hq => by rw [hopp] at hq; cases hq
                obtain ⟨dst, op', type, pos, after, guard⟩ := o
                simp only at hit hd
                subst hit
                rcases nextM_run (P := P) (ty := type) H hb with ⟨h0, hrun⟩ | ⟨i, p, w', hi, e, hrun, H', F', r1, r2⟩
                · unfold Oper.wp
                  have hr2 : (execOp a.eval ⟨dst, .next it false, type, pos, after, guard⟩).run P w = .ok (.value (.tuple #[.bool false])) w := by
                    simp only [execOp, he', Sem.run_bind, hrun, Result.andThen_ok, Sem.run_pure]
                  rw [hr2, Oper.upon_value]
                  have hm2 := hm0 h0
                  rw [hd] at hm2
                  refine hK _ _ _ hm2 (HR.put (env := s.env) (h := s.h) (n := s.n) H HE F hdf hN hfit' fun x hx => ?_) (nk _) (nq _)
                  cases hx
                  exact .tup rfl fun i x hi => by
                    match i with
                    | 0 => simp at hi; subst hi; exact .c (.val rfl)
                    | i + 1 => simp at hi
                · unfold Oper.wp
                  have hr2 : (execOp a.eval ⟨dst, .next it false, type, pos, after, guard⟩).run P w = .ok (.value (.tuple #[.bool true, e.key, e.val])) w' := by
                    simp only [execOp, he', Sem.run_bind, hrun, Result.andThen_ok, Sem.run_pure]
                  rw [hr2, Oper.upon_value]
                  have hm2 := hm1 i p hi
                  rw [hd] at hm2
                  refine hK _ _ _ hm2 (HR.put H' (HE.mono F'.le) (F.trans F') hdf hN hfit' fun x hx => ?_) (nk _) (nq _)
                  cases hx
                  exact .tup rfl fun i x hi => by
                    match i with
                    | 0 => simp at hi; subst hi; exact .c (.val rfl)
                    | 1 => simp at hi; subst hi; exact .c r1
                    | 2 => simp at hi; subst hi; exact r2
                    | i + 3 => simp at hi
              · exact hm.elim
            · exact hm.elim
          · exact hm.elim
  have isCall : ao.op.isCall = true → ∃ g args argTypes, o.op = .call { callee := .value g, args, argTypes } := by
    intro hi
    unfold callFits at hcf
    rw [hi] at hcf
    simp only [Bool.not_true, Bool.false_or] at hcf
    split at hcf
    · exact ⟨_, _, _, by assumption⟩
    · cases hcf
  unfold evAct at he
  split at he
  · rename_i f xs hfx
    obtain ⟨g, args, argTypes, hcall⟩ := isCall (by rw [hfx]; rfl)
    obtain ⟨dst, op, type, pos, after, guard⟩ := o
    simp only at hcall hd hfit'
    subst hcall
    rw [hfx] at hop
    have hinv : g = .func f ∧ okFn P f = true ∧ compArgs P argTypes.toList args.toList = some xs := by
      cases g <;> simp only [compOp, bind, Option.bind_eq_some_iff, Option.some.injEq] at hop
      case func f' =>
        split at hop
        · rename_i hok
          simp only [Option.bind_eq_some_iff, Option.some.injEq] at hop
          obtain ⟨ys, hys, heq⟩ := hop
          cases heq
          exact ⟨rfl, hok, hys⟩
        · cases hop
      all_goals
        obtain ⟨_, _, _, _, heq⟩ := hop
        cases heq
    obtain ⟨rfl, hok, hcomp⟩ := hinv
    rw [hd] at he
    exact callTo_ok (fv := #[]) (cv := #[]) rfl hok hcomp rfl rfl (fun _ _ _ _ i x hi => by simp at hi) (fun _ _ _ _ i x hi => by simp at hi) hfit' he hr fun r s' w' v h1 h2 h3 => hK _ _ _ h1 h3 h2 (fun hq => by rw [hfx] at hq; cases hq)
  · rename_i g' xs hfx
    split at he
    · rename_i f first captured hg'
      obtain ⟨hok, he⟩ := he
      obtain ⟨g, args, argTypes, hcall⟩ := isCall (by rw [hfx]; rfl)
      obtain ⟨dst, op, type, pos, after, guard⟩ := o
      simp only at hcall hd hfit'
      subst hcall
      rw [hfx] at hop
      have hinv : compArg P 0 g = some g' ∧ compArgs P argTypes.toList args.toList = some xs := by
        cases g <;> simp only [compOp, bind, Option.bind_eq_some_iff, Option.some.injEq] at hop
        case func f' =>
          split at hop
          · simp only [Option.bind_eq_some_iff, Option.some.injEq] at hop
            obtain ⟨ys, hys, heq⟩ := hop
            cases heq
          · cases hop
        all_goals
          obtain ⟨y, hy, ys, hys, heq⟩ := hop
          cases heq
          exact ⟨hy, hys⟩
      obtain ⟨hcg, hcomp⟩ := hinv
      rw [hd] at he
      obtain ⟨μ, κ, H, HE, F, hdf, hN⟩ := hr
      have hrel := relV_c (arg_ok H HE hcg hg')
      obtain ⟨vs, us, hev, l1, l2, q1, q2⟩ := relC_fn hrel
      have back : ∀ {μ κ : Nat → Nat}, HeapOK Γ E w μ κ s.h s.n → EnvOK (ctx E w μ κ s.h s.n) s.env a →
          (∀ (i : Nat) (x : Cel), first[i]? = some x → RelC (ctx E w μ κ s.h s.n) x (vs.getD i undef)) ∧ (∀ (i : Nat) (x : Cel), captured[i]? = some x → RelC (ctx E w μ κ s.h s.n) x (us.getD i undef)) := by
        intro μ κ H HE
        obtain ⟨vs', us', hev', _, _, q1', q2'⟩ := relC_fn (relV_c (arg_ok H HE hcg hg'))
        rw [hev] at hev'
        cases hev'
        exact ⟨q1', q2'⟩
      refine callTo_ok (fv := vs) (cv := us) hev hok hcomp (by rw [List.length_map, l1]) (by rw [List.length_map, l2]) (fun μ κ H HE i x hi => ?_) (fun μ κ H HE i x hi => ?_) hfit' he ⟨μ, κ, H, HE, F, hdf, hN⟩ fun r s' w' v h1 h2 h3 => hK _ _ _ h1 h3 h2 (fun hq => by rw [hfx] at hq; cases hq)
      · rw [List.getElem?_map] at hi
        obtain ⟨y, hy, rfl⟩ := Option.map_eq_some_iff.1 hi
        exact .c ((back H HE).1 i y hy)
      · rw [List.getElem?_map] at hi
        obtain ⟨y, hy, rfl⟩ := Option.map_eq_some_iff.1 hi
        exact .c ((back H HE).2 i y hy)
    · exact he.elim
  · rename_i h1 h2
    exact other _ rfl he

theorem evAct_bad {ao : AOper} {keep : Bool} {K : St → Prop} (h : ao.op = .bad) : ¬ evAct P Γ keep ao K s := by
  intro he
  unfold evAct at he
  rw [h] at he
  exact he

theorem evOp0_ok {i : Nat} {o : Oper} {ao : AOper} {keep : Bool} {K : St → Prop} {Kc : Act → World → Prop} (hi : ops[i]? = some o) (hc : compOper P ops o = some ao) (hfit : fitsD N ao = true) (he : evOp0 P Γ keep ao K s) (hr : HR Γ E K0 N s a w)
    (hK : ∀ s' a' w', K s' → HR Γ E K0 N s' a' w' → Kept keep w w' → (ao.op.quiet = true → w' = w) → Kc a' w') : wpOp P ops Q i Kc a w := by
  obtain ⟨μ, κ, H, HE, F, hdf, hN⟩ := id hr
  obtain ⟨hop0, hd, hw0, hw1⟩ := wanted_of hc HE
  have hfit' : ∀ k, o.dst = some k → k < N := by
    intro k hk
    unfold fitsD at hfit
    rw [hd, hk] at hfit
    simpa using hfit
  have hskip : ∀ s', s' = s.put ao.dst (some (.tup [])) → K s' → Kc (a.put o.dst undef) w := by
    rintro s' rfl hk
    rw [hd] at hk
    exact hK _ _ _ hk (HR.put (env := s.env) (h := s.h) (n := s.n) H HE F hdf hN hfit' fun x hx => by cases hx; exact relV_undef) (.refl _ _) (fun _ => rfl)
  unfold wpOp
  simp only [hi]
  unfold evOp0 at he
  split at he
  · rename_i hg
    rw [hw0 hg]
    rcases hop0 with ⟨hop, hcf⟩ | hb
    · exact .inl (evAct_ok hop hcf hd hfit he hr hK)
    · exact (evAct_bad hb he).elim
  · rename_i d want hg
    obtain ⟨g1, g2⟩ := hw1 d want hg
    split at he
    · rename_i b hb
      rw [g1 b hb]
      by_cases hbw : b = want
      · subst hbw
        simp only [BEq.rfl, if_true]
        rcases hop0 with ⟨hop, hcf⟩ | hb2
        · exact .inl (evAct_ok hop hcf hd hfit (he.1 rfl) hr hK)
        · exact (evAct_bad hb2 (he.1 rfl)).elim
      · have : (b == want) = false := by simpa using hbw
        rw [this]
        simp only [Bool.false_eq_true, if_false]
        exact hskip _ rfl (he.2 hbw)
    · rename_i hb
      rw [g2 hb]
      simp only [Bool.false_eq_true, if_false]
      exact hskip _ rfl he
    · exact he.elim

theorem evOp_ok {k0 : Nat} (hk0 : K0.n ≤ k0) {i : Nat} {o : Oper} {ao : AOper} {keep : Bool} {K : St → Prop} {Kc : Act → World → Prop} (hi : ops[i]? = some o) (hc : compOper P ops o = some ao) (hfit : fitsD N ao = true) (he : evOp P Γ k0 keep ao K s) (hr : HR Γ E K0 N s a w)
    (hK : ∀ s' a' w', K s' → HR Γ E K0 N s' a' w' → Kept keep w w' → (ao.op.quiet = true → w' = w) → Kc a' w') : wpOp P ops Q i Kc a w := by
  obtain ⟨s', hw, he⟩ := he
  exact evOp0_ok hi hc hfit he (hr.weak hk0 hw) hK

theorem evOps_ok {k0 : Nat} (hk0 : K0.n ≤ k0) {K : St → Prop} (hQ : ∀ s' a' w', K s' → HR Γ E K0 N s' a' w' → Q .normal a' w') : ∀ (is : List Nat) (l : List AOper) (s : St) (a : Act) (w : World), is.length = l.length →
    (∀ (j i : Nat) (ao : AOper), is[j]? = some i → l[j]? = some ao → ∃ o, ops[i]? = some o ∧ compOper P ops o = some ao ∧ fitsD N ao = true) → evOps P Γ k0 K l s → HR Γ E K0 N s a w → wpOps P ops Q is a w := by
  intro is
  induction is with
  | nil =>
    intro l s a w hl _ he hr
    have : l = [] := List.eq_nil_of_length_eq_zero hl.symm
    subst this
    obtain ⟨s', hw, he⟩ := he
    exact hQ _ _ _ he (hr.weak hk0 hw)
  | cons i is ih =>
    intro l s a w hl hall he hr
    cases l with
    | nil => simp at hl
    | cons ao l =>
      rw [wpOps_cons]
      obtain ⟨o, h1, h2, h3⟩ := hall 0 i ao rfl rfl
      exact evOp_ok hk0 h1 h2 h3 he hr fun s' a' w' hk hr' _ _ => ih l s' a' w' (by simpa using hl) (fun j i ao hj hj' => hall (j + 1) i ao (by simpa using hj) (by simpa using hj')) hk hr'

theorem region_ok {k0 : Nat} (hk0 : K0.n ≤ k0) {id : Nat} {K : St → Prop} {l : List AOper} (hl : ops.toList.mapM (compOper P ops) = some l) (hfit : l.all (fitsD N) = true) (he : evOps P Γ k0 K l s) (hr : HR Γ E K0 N s a w)
    (hQ : ∀ s' a' w', K s' → HR Γ E K0 N s' a' w' → Q .normal a' w') : (Code.region id ops false).wp P Q a w := by
  obtain ⟨h1, h2⟩ := mapM_get hl
  refine wp_region (evOps_ok hk0 hQ _ l s a w (by rw [h1]; simp) (fun j i ao hj hj' => ?_) he hr)
  obtain ⟨hlt, rfl⟩ := List.getElem?_eq_some_iff.1 hj
  simp only [List.length_range] at hlt
  simp only [List.getElem_range]
  have ho : ops[j]? = some ops[j] := Array.getElem?_eq_getElem hlt
  obtain ⟨y, hy, hcy⟩ := h2 j _ (by rw [Array.getElem?_toList]; exact ho)
  rw [hj'] at hy
  cases hy
  exact ⟨_, ho, hcy, List.all_eq_true.1 hfit ao (List.mem_of_getElem? hj')⟩

end
end Go.Proofs.YtolmbcngghkfiaaDoorBv
