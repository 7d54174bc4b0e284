/- The calculus: the soundness of what is told of one operation in a region. It proves nothing of any program. -/
import Derived.Test.YtolmbcngghkfiaaDoorBv13
namespace Go.Proofs.YtolmbcngghkfiaaDoorBv
open Go
set_option linter.unusedVariables false
set_option linter.unusedSimpArgs false

section
variable {P : Program} {Γ : Glob} {E : Nat → Prop} {K0 : Ctx} {N : Nat} {s : St} {a : Act} {w : World} {ops : Array Oper} {Q : Exit → Act → World → Prop}

theorem envOK_put {K : Ctx} {env : Nat → Option AV} {d : Nat} {v : AV} {cv : Value} (HE : EnvOK K env a) (hd : d < a.tmps.size) (r : RelV K v cv) : EnvOK K (upd env d (some v)) (a.put (some d) cv) := by
  intro t u hu
  show RelV K u ((a.tmps.setIfInBounds d cv).getD t undef)
  by_cases e : t = d
  · subst e
    rw [upd_same] at hu
    cases hu
    rwa [getD_of (Array.getElem?_setIfInBounds_self_of_lt hd)]
  · rw [upd_ne _ _ e] at hu
    have : (a.tmps.setIfInBounds d cv).getD t undef = a.tmps.getD t undef := by
      simp only [Array.getD_eq_getD_getElem?, Array.getElem?_setIfInBounds_ne (Ne.symm e)]
    rw [this]
    exact HE t u hu

theorem envOK_drop {K : Ctx} {env : Nat → Option AV} {d : Nat} {cv : Value} (HE : EnvOK K env a) : EnvOK K (upd env d none) (a.put (some d) cv) := by
  intro t u hu
  show RelV K u ((a.tmps.setIfInBounds d cv).getD t undef)
  by_cases e : t = d
  · subst e
    rw [upd_same] at hu
    cases hu
  · rw [upd_ne _ _ e] at hu
    have : (a.tmps.setIfInBounds d cv).getD t undef = a.tmps.getD t undef := by
      simp only [Array.getD_eq_getD_getElem?, Array.getElem?_setIfInBounds_ne (Ne.symm e)]
    rw [this]
    exact HE t u hu

theorem put_defers (a : Act) (d : Option Nat) (v : Value) : (a.put d v).defers = a.defers := by cases d <;> rfl
theorem put_size (a : Act) (d : Option Nat) (v : Value) : (a.put d v).tmps.size = a.tmps.size := by cases d <;> simp [Act.put]

/-- a slot is written -/
theorem HR.put {μ κ : Nat → Nat} {d : Option Nat} {v : Option AV} {cv : Value} {env : Nat → Option AV} {h : Heap} {n : Nat} (H : HeapOK Γ E w μ κ h n) (HE : EnvOK (ctx E w μ κ h n) env a) (F : From E K0 (ctx E w μ κ h n))
    (hd : a.defers = K0.ds) (hN : N ≤ a.tmps.size) (hf : ∀ k, d = some k → k < N) (r : ∀ x, v = some x → RelV (ctx E w μ κ h n) x cv) : HR Γ E K0 N ((⟨env, h, n⟩ : St).put d v) (a.put d cv) w := by
  refine ⟨μ, κ, ?_⟩
  have e1 : ((⟨env, h, n⟩ : St).put d v).h = h := by cases d <;> rfl
  have e2 : ((⟨env, h, n⟩ : St).put d v).n = n := by cases d <;> rfl
  rw [e1, e2]
  refine ⟨H, ?_, F, by rw [put_defers]; exact hd, by rw [put_size]; exact hN⟩
  cases d with
  | none => exact HE
  | some k =>
    cases v with
    | none => exact envOK_drop HE
    | some x => exact envOK_put HE (Nat.lt_of_lt_of_le (hf k rfl) hN) (r x rfl)

/-- What an operation must leave as it was, where it must. -/
def Kept (keep : Bool) (w w' : World) : Prop := keep = true → w.heap.size ≤ w'.heap.size ∧ ∀ k, k < w.heap.size → w'.heap[k]? = w.heap[k]?

theorem Kept.refl (keep : Bool) (w : World) : Kept keep w w := fun _ => ⟨Nat.le_refl _, fun _ _ => rfl⟩

theorem execOp_call {dst : Option Tmp} {type : TypeId} {pos : String} {after : Array Edge} {guard : Option (Nat × Bool)} {g : Operand} {args : Array Operand} {argTypes : Array TypeId} {f : FuncId} {first captured : Array Value}
    (hg : a.eval g = .func (.func f) first captured) (hf : okFn P f = true) :
    (execOp a.eval ⟨dst, .call { callee := .value g, args, argTypes }, type, pos, after, guard⟩).run P w = .ok (.enter f (first ++ args.map a.eval ++ captured)) w := by
  unfold okFn at hf
  split at hf
  · rename_i fn hfn
    simp only [Bool.and_eq_true, Bool.not_eq_true'] at hf
    have hb : fn.body.isNone = false := by cases h : fn.body <;> simp_all
    simp only [execOp, resolve, Deferred.ofValue, hg, Sem.run_bind, Sem.run_pure, Result.andThen_ok, invoke, callFunc, run_program, hfn, hf.2, hb, Bool.false_eq_true, if_false]
  · cases hf

theorem args_get {first captured : List AV} {vs : List AV} {fv cv : Array Value} {xs : List Arg} {args : Array Operand} {argTypes : Array TypeId} {μ κ : Nat → Nat} {env : Nat → Option AV} {h : Heap} {n : Nat}
    (H : HeapOK Γ E w μ κ h n) (HE : EnvOK (ctx E w μ κ h n) env a) (h1 : first.length = fv.size) (h2 : captured.length = cv.size)
    (r1 : ∀ (i : Nat) (x : AV), first[i]? = some x → RelV (ctx E w μ κ h n) x (fv.getD i undef)) (r2 : ∀ (i : Nat) (x : AV), captured[i]? = some x → RelV (ctx E w μ κ h n) x (cv.getD i undef))
    (hc : compArgs P argTypes.toList args.toList = some xs) (hv : xs.mapM (·.get Γ env) = some vs) :
    (fv ++ args.map a.eval ++ cv).size = (first ++ vs ++ captured).length ∧ ∀ (i : Nat) (x : AV), (first ++ vs ++ captured)[i]? = some x → RelV (ctx E w μ κ h n) x ((fv ++ args.map a.eval ++ cv).getD i undef) := by
  unfold compArgs at hc
  obtain ⟨k1, k2⟩ := mapM_get hc
  obtain ⟨k3, k4⟩ := mapM_get hv
  have hal : vs.length = args.size := by
    rw [k3, k1, List.length_zip, List.length_append, List.length_replicate, Array.length_toList]
    omega
  refine ⟨by simp [h1, h2, hal], fun i x hi => ?_⟩
  have get : ∀ (A : Array Value) (j : Nat), A.getD j undef = (A[j]?).getD undef := fun A j => Array.getD_eq_getD_getElem?
  by_cases c1 : i < first.length
  · rw [List.append_assoc, List.getElem?_append_left c1] at hi
    rw [get, Array.append_assoc, Array.getElem?_append_left (by omega), ← get]
    exact r1 i x hi
  · by_cases c2 : i < first.length + vs.length
    · rw [List.getElem?_append_left (by rw [List.length_append]; omega), List.getElem?_append_right (by omega)] at hi
      rw [get, Array.getElem?_append_left (by simp; omega), Array.getElem?_append_right (by omega), Array.getElem?_map]
      have hlt : i - first.length < args.size := by omega
      have hx : args[i - fv.size]? = some (args[i - first.length]'hlt) := by simp only [← h1]; exact Array.getElem?_eq_getElem hlt
      rw [hx]
      have hxs : i - first.length < xs.length := by have := (List.getElem?_eq_some_iff.1 hi).1; omega
      obtain ⟨q, hq1, hq2⟩ := k4 (i - first.length) _ (List.getElem?_eq_getElem hxs)
      rw [hi] at hq1
      cases hq1
      have hz : (args.toList.zip (argTypes.toList ++ List.replicate args.toList.length 0))[i - first.length]? = some (args[i - first.length], (argTypes.toList ++ List.replicate args.toList.length 0)[i - first.length]'(by simp; omega)) := by
        rw [List.getElem?_zip_eq_some]
        refine ⟨by simp [hlt], List.getElem?_eq_getElem _⟩
      obtain ⟨y, hy1, hy2⟩ := k2 _ _ hz
      rw [List.getElem?_eq_getElem hxs] at hy1
      cases hy1
      exact arg_ok H HE hy2 hq2
    · rw [List.getElem?_append_right (by rw [List.length_append]; omega), List.length_append] at hi
      rw [get, Array.getElem?_append_right (by simp; omega), ← get]
      have : i - (fv ++ args.map a.eval).size = i - (first.length + vs.length) := by simp [h1, hal]
      rw [this]
      exact r2 _ x hi

theorem closedV {K K' : Ctx} {x : AV} {v : Value} (h : RelV K x v) (hf : x.closed = true) (hn : K'.n = K.n) (hμ : K'.μ = K.μ) (hκ : K'.κ = K.κ) : RelV K' x v := by
  cases h with
  | c h => exact .c (closed_to h hf hn hμ hκ)
  | agg hl r => exact .agg hl fun i x hi => closed_to (r i x hi) (List.all_eq_true.1 hf x (List.mem_of_getElem? hi)) hn hμ hκ
  | tup hl r =>
    refine .tup hl fun i x hi => ?_
    have hc := List.all_eq_true.1 hf x (List.mem_of_getElem? hi)
    have hr := r i x hi
    generalize hu : Array.getD _ i undef = u at hr
    cases hr with
    | c h => exact .c (closed_to h hc hn hμ hκ)
    | agg hl r => exact .agg hl fun i x hi => closed_to (r i x hi) (List.all_eq_true.1 hc x (List.mem_of_getElem? hi)) hn hμ hκ
    | tup => cases hc

/-- what was lent is given back -/
theorem lend_back {μ κ : Nat → Nat} {h h2 h1 h1' : Heap} {n n' : Nat} {w' : World} {μ' κ' : Nat → Nat} (H : HeapOK Γ E w μ κ h n) (hl2 : ∀ b x, h2 b = some x → h b = some x) (hl : ∀ b x, h1 b = some x → h2 b = some x)
    (H' : HeapOK Γ (fun k => E k ∨ ∃ b x, h2 b = some x ∧ h1 b = none ∧ μ b = k) w' μ' κ' h1' n')
    (F : From (fun k => E k ∨ ∃ b x, h2 b = some x ∧ h1 b = none ∧ μ b = k) (ctx E w μ κ h2 n) (ctx (fun k => E k ∨ ∃ b x, h2 b = some x ∧ h1 b = none ∧ μ b = k) w' μ' κ' h1' n'))
    (hcl : ∀ b x, h1' b = some x → x.closed = true) :
    HeapOK Γ E w' μ' κ' (merge n h h1 h1') n' ∧ From E (ctx E w μ κ h n) (ctx E w' μ' κ' (merge n h h1 h1') n') := by
  have H2 := (H.less hl2).1
  have hbn : ∀ b x, h b = some x → b < n := H.bound
  -- what a block of the merged heap is
  have hm : ∀ b x, merge n h h1 h1' b = some x → h1' b = some x ∨ (h b = some x ∧ h1 b = none ∧ b < n) := by
    intro b x hb
    unfold merge at hb
    split at hb
    · rename_i y hy
      cases hb
      exact .inl hy
    · split at hb
      · rename_i hc
        refine .inr ⟨hb, ?_, hc.1⟩
        cases e : h1 b with
        | none => rfl
        | some y => rw [e] at hc; simp at hc
      · cases hb
  have hμ : ∀ b, b < n → μ' b = μ b := fun b hb => F.le.μ b hb
  -- a block that was there, and is not handed on: as it was; and none of the callee's
  have old : ∀ b x, h b = some x → h1 b = none → w'.heap[μ b]? = w.heap[μ b]? ∧ ∀ b' x', h1' b' = some x' → μ' b' ≠ μ b := by
    intro b x hb h1b
    cases e : h2 b with
    | some y =>
      have hE : E (μ b) ∨ ∃ b' x, h2 b' = some x ∧ h1 b' = none ∧ μ b' = μ b := .inr ⟨b, y, e, h1b, rfl⟩
      exact ⟨F.res _ hE (H.blk b x hb).lt, fun b' x' hb' e' => H'.res b' x' hb' (by rw [e']; exact hE)⟩
    | none =>
      have hS : stab E w μ h2 (μ b) := by
        refine ⟨(H.blk b x hb).lt, H.res b x hb, fun b' y hb' e' => ?_⟩
        have := H.inj b' b y x (hl2 b' y hb') hb e'
        subst this
        rw [e] at hb'
        cases hb'
      exact ⟨F.le.heap _ hS, fun b' x' hb' => (F.le.S _ hS).2.2 b' x' hb'⟩
  have F' : From E (ctx E w μ κ h n) (ctx E w' μ' κ' (merge n h h1 h1') n') := by
    refine ⟨⟨F.le.n, F.le.μ, F.le.κ, fun k hk => ?_, fun k hk => ?_⟩, F.size, F.os, F.tape, F.output, fun k hk hlt => F.res k (.inl hk) hlt⟩
    · have hS : stab E w μ h2 k := ⟨hk.1, hk.2.1, fun b x hb => hk.2.2 b x (hl2 b x hb)⟩
      have hS' := F.le.S k hS
      refine ⟨hS'.1, fun e => hS'.2.1 (.inl e), fun b x hb e => ?_⟩
      rcases hm b x hb with hq | ⟨hq, hq1, hq2⟩
      · exact hS'.2.2 b x hq e
      · rw [hμ b hq2] at e
        exact hk.2.2 b x hq e
    · exact F.le.heap k ⟨hk.1, hk.2.1, fun b x hb => hk.2.2 b x (hl2 b x hb)⟩
  refine ⟨⟨fun k hk => H'.lt k (.inl hk), ?_, ?_, ?_, ?_, fun g => (H.glob g).mono F'.le⟩, F'⟩
  · intro b x hb
    rcases hm b x hb with hq | ⟨_, _, hq⟩
    · exact H'.bound b x hq
    · exact Nat.lt_of_lt_of_le hq F.le.n
  · intro b b' x x' hb hb' e
    rcases hm b x hb with hq | ⟨hq, hq1, hq2⟩ <;> rcases hm b' x' hb' with kq | ⟨kq, kq1, kq2⟩
    · exact H'.inj b b' x x' hq kq e
    · rw [hμ b' kq2] at e
      exact absurd e ((old b' x' kq kq1).2 b x hq)
    · rw [hμ b hq2] at e
      exact absurd e.symm ((old b x hq hq1).2 b' x' kq)
    · rw [hμ b hq2, hμ b' kq2] at e
      exact H.inj b b' x x' hq kq e
  · intro b x hb
    rcases hm b x hb with hq | ⟨hq, hq1, hq2⟩
    · exact fun e => H'.res b x hq (.inl e)
    · rw [hμ b hq2]; exact H.res b x hq
  · intro b x hb
    rcases hm b x hb with hq | ⟨hq, hq1, hq2⟩
    · have hr := H'.blk b x hq
      have hc := hcl b x hq
      cases x with
      | iter s p => exact hr
      | bld T z c len => exact hr
      | buf e l => exact hr
      | mit m la es => cases hc
      | mapb m es =>
        obtain ⟨A, c, a0, a1, a2⟩ := hr
        refine ⟨A, c, a0, a1, fun i k v hi => ?_⟩
        obtain ⟨q0, e, q1, q2, q3⟩ := a2 i k v hi
        have hcy := List.all_eq_true.1 hc (k, v) (List.mem_of_getElem? hi)
        rw [Bool.and_eq_true] at hcy
        exact ⟨q0, e, q1, closed_to q2 hcy.1 rfl rfl rfl, closedV q3 hcy.2 rfl rfl rfl⟩
      | cells sz es =>
        obtain ⟨C, t, fr, a0, a1, a2, a3, a4⟩ := hr
        refine ⟨C, t, fr, a0, a1, a2, a3, fun i e he => ⟨(a4 i e he).1, fun j y hy => ?_⟩⟩
        obtain ⟨v, hv, hrel⟩ := (a4 i e he).2 j y hy
        have hcy : y.closed = true := List.all_eq_true.1 (List.all_eq_true.1 hc e (List.mem_of_getElem? he)) y (List.mem_of_getElem? hy)
        exact ⟨v, hv, closed_to hrel hcy rfl rfl rfl⟩
    · exact (H.blk b x hq).mono F'.le hq2 (old b x hq hq1).1

/-- a call, by its contract -/
theorem callTo_ok {dst : Option Tmp} {type : TypeId} {pos : String} {after : Array Edge} {guard : Option (Nat × Bool)} {g : Operand} {args : Array Operand} {argTypes : Array TypeId} {f : FuncId} {fv cv : Array Value}
    {first captured : List AV} {xs : List Arg} {keep : Bool} {K : Kont} {Kc : Act → World → Prop}
    (hg : a.eval g = .func (.func f) fv cv) (hf : okFn P f = true) (hc : compArgs P argTypes.toList args.toList = some xs) (h1 : first.length = fv.size) (h2 : captured.length = cv.size)
    (r1 : ∀ (μ κ : Nat → Nat), HeapOK Γ E w μ κ s.h s.n → EnvOK (ctx E w μ κ s.h s.n) s.env a → ∀ (i : Nat) (x : AV), first[i]? = some x → RelV (ctx E w μ κ s.h s.n) x (fv.getD i undef))
    (r2 : ∀ (μ κ : Nat → Nat), HeapOK Γ E w μ κ s.h s.n → EnvOK (ctx E w μ κ s.h s.n) s.env a → ∀ (i : Nat) (x : AV), captured[i]? = some x → RelV (ctx E w μ κ s.h s.n) x (cv.getD i undef))
    (hfit : ∀ k, dst = some k → k < N) (hs : CallTo P Γ f first xs captured keep s) (hr : HR Γ E K0 N s a w)
    (hK : ∀ r s' w' v, K.go r s' → Kept keep w w' → HR Γ E K0 N (s'.put dst (some r)) (a.put dst v) w' → Kc (a.put dst v) w') :
    (⟨dst, .call { callee := .value g, args, argTypes }, type, pos, after, guard⟩ : Oper).wp P a w Kc Q := by
  obtain ⟨vs, hvs, hL, as, hsubL, hasl, hasr, h1', R, hsub, hkeep, hcall, hall⟩ := hs
  obtain ⟨μ, κ, H, HE, F, hd, hN⟩ := hr
  obtain ⟨e1, e2⟩ := args_get H HE h1 h2 (fun i x hi => r1 μ κ H HE i x hi) (fun i x hi => r2 μ κ H HE i x hi) hc hvs
  obtain ⟨HL, FL⟩ := H.less hsubL
  obtain ⟨Hs, es⟩ := call_split HL hsub
  have hcalls := hcall _ w μ κ _ Hs (e1.trans hasl.symm) (fun i y hi => by
    rw [es]
    have hlt := (List.getElem?_eq_some_iff.1 hi).1
    have hx := List.getElem?_eq_getElem (l := first ++ vs ++ captured) (i := i) (by rw [← hasl]; exact hlt)
    have hrel := e2 i _ hx
    rcases hasr i _ y hx hi with rfl | q
    · exact hrel.mono FL.le
    · have := q.ok (μ := μ) (κ := κ) H (fun b x hb => ⟨x, hsubL b x hb⟩) hrel
      exact this)
  unfold Oper.wp
  rw [execOp_call hg hf, Oper.upon_enter]
  refine Calls.mono hcalls fun e w' he => ?_
  obtain ⟨v, r, h1'', n', μ', κ', rfl, hR, H', F', R'⟩ := he
  rw [es] at F'
  obtain ⟨hlend, h3, hsub3, hk⟩ := hall r h1'' n' F'.le.n hR
  have hkept : Kept keep w w' := fun hkp => ⟨F'.size, fun k hlt => by
    have h10 := hkeep hkp
    subst h10
    by_cases hE : E k ∨ ∃ b x, hL b = some x ∧ (none : Option Blk) = none ∧ μ b = k
    · exact F'.res k hE hlt
    · refine F'.le.heap k ?_
      refine ⟨hlt, fun e => hE (.inl e), fun b x hb e => hE (.inr ⟨b, x, hb, rfl, e⟩)⟩⟩
  rcases hlend with rfl | ⟨hcr, hcb⟩
  · obtain ⟨H2, F2, L2⟩ := call_merge H hsub H' F'
    obtain ⟨H3, F3⟩ := H2.less (hsub3 fun b x hb => H.bound b x hb)
    have F4 := F2.trans F3
    refine hK r ⟨s.env, h3, n'⟩ w' v hk hkept (HR.put H3 (HE.mono F4.le) (F.trans F4) hd hN hfit fun x hx => ?_)
    cases hx
    exact (R'.mono L2).mono F3.le
  · obtain ⟨H2, F2⟩ := lend_back H hsubL hsub H' F' hcb
    obtain ⟨H3, F3⟩ := H2.less (hsub3 fun b x hb => H.bound b x hb)
    have F4 := F2.trans F3
    refine hK r ⟨s.env, h3, n'⟩ w' v hk hkept (HR.put H3 (HE.mono F4.le) (F.trans F4) hd hN hfit fun x hx => ?_)
    cases hx
    exact (closedV R' hcr rfl rfl rfl : RelV (ctx E w' μ' κ' h3 n') r v)

end
end Go.Proofs.YtolmbcngghkfiaaDoorBv
