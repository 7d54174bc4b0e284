/- The calculus: code and functions: from the conditions to the model's calls. It proves nothing of any program. -/
import Derived.Test.YtolmbcngghkfiaaDoorBv16
namespace Go.Proofs.YtolmbcngghkfiaaDoorBv
open Go
set_option linter.unusedVariables false
set_option linter.unusedSimpArgs false

def AExit.as : AExit → Exit
  | .normal => .normal
  | .exit id => .exit id
  | .ret => .ret

/-- What holds in the model, by what is told. -/
def Post (Γ : Glob) (E : Nat → Prop) (K0 : Ctx) (N : Nat) (Q : AExit → St → Prop) : Exit → Act → World → Prop := fun e a w => ∃ e' s, e = AExit.as e' ∧ Q e' s ∧ HR Γ E K0 N s a w

theorem exists_least {p : Nat → Prop} (h : ∃ k, p k) : ∃ k, p k ∧ ∀ j, p j → k ≤ j := by
  obtain ⟨k, hk⟩ := h
  induction k using Nat.strongRecOn with
  | _ k ih =>
    by_cases h2 : ∃ j, j < k ∧ p j
    · obtain ⟨j, hj, hp⟩ := h2
      exact ih j hj hp
    · exact ⟨k, hk, fun j hj => Nat.le_of_not_lt fun hlt => h2 ⟨j, hlt, hj⟩⟩

section
variable {P : Program} {Γ : Glob} {E : Nat → Prop} {K0 : Ctx} {N : Nat}

theorem post_then {K : St → Prop} {Q : AExit → St → Prop} {R : Act → World → Prop} (h : ∀ s a w, K s → HR Γ E K0 N s a w → R a w) {e : Exit} {a : Act} {w : World} (hp : Post Γ E K0 N (AThen K Q) e a w) :
    Exit.then R (Post Γ E K0 N Q) e a w := by
  obtain ⟨e', s, rfl, hq, hr⟩ := hp
  cases e' with
  | normal => exact h s a w hq hr
  | exit id => exact ⟨.exit id, s, rfl, hq, hr⟩
  | ret => exact ⟨.ret, s, rfl, hq, hr⟩

end

/-! ### code -/
/-- From this state the code comes, in the model, to one of the ends that are told. -/
def Sv (P : Program) (Γ : Glob) (k0 : Nat) (ac : ACode) (Q : AExit → St → Prop) (s : St) : Prop :=
  ∀ (E : Nat → Prop) (K0 : Ctx) (N : Nat) (c : Code) (a : Act) (w : World), P.follows .mixedOrders = true → K0.n ≤ k0 → compCode P c = some ac → ac.fits N = true → HR Γ E K0 N s a w → c.wp P (Post Γ E K0 N Q) a w

section
variable {P : Program} {Γ : Glob} {k0 : Nat} {Q : AExit → St → Prop} {s : St}

theorem Sv.weak {ac : ACode} {s' : St} (k : Weak k0 s s') (h : Sv P Γ k0 ac Q s') : Sv P Γ k0 ac Q s :=
  fun E K0 N c a w hm hk hc hf hr => h E K0 N c a w hm hk hc hf (hr.weak hk k)

theorem Sv.mono {ac : ACode} {Q' : AExit → St → Prop} (hq : ∀ e s, Q e s → Q' e s) (h : Sv P Γ k0 ac Q s) : Sv P Γ k0 ac Q' s :=
  fun E K0 N c a w hm hk hc hf hr => wp_mono (h E K0 N c a w hm hk hc hf hr) fun e a w ⟨e', s', h1, h2, h3⟩ => ⟨e', s', h1, hq _ _ h2, h3⟩

theorem region_inv {id : Nat} {ops : Array Oper} {dr : Bool} {ac : ACode} (h : compRegion P ops dr = some ac) : (∃ l, ac = .region l ∧ dr = false ∧ ops.toList.mapM (compOper P ops) = some l) ∨ (∃ l, ac = .drawn l ∧ dr = true) := by
  simp only [compRegion, bind, Option.bind_eq_some_iff] at h
  obtain ⟨l, hl, h⟩ := h
  cases dr with
  | false =>
    simp only [Bool.false_eq_true, if_false, Option.some.injEq] at h
    exact .inl ⟨l, h.symm, rfl, hl⟩
  | true =>
    simp only [if_true] at h
    split at h
    · simp only [Option.bind_eq_some_iff, Option.some.injEq] at h
      obtain ⟨_, _, rfl⟩ := h
      exact .inr ⟨_, rfl, rfl⟩
    · cases h

theorem comp_inv {c : Code} {ac : ACode} (h : compCode P c = some ac) : (match ac with
    | .skip => c = .skip
    | .region l => ∃ id ops, c = .region id ops false ∧ ops.toList.mapM (compOper P ops) = some l
    | .drawn l => ∃ id ops, c = .region id ops true ∧ compRegion P ops true = some (.drawn l)
    | .seq x y => ∃ cx cy, c = .seq cx cy ∧ compCode P cx = some x ∧ compCode P cy = some y
    | .cond v x y => ∃ cv cx cy, c = .cond cv cx cy ∧ compArg P 0 cv = some v ∧ compCode P cx = some x ∧ compCode P cy = some y
    | .block id x => ∃ cx, c = .block id cx ∧ compCode P cx = some x
    | .loop x => ∃ cx, c = .loop cx ∧ compCode P cx = some x
    | .exit id => c = .exit id
    | .ret => c = .ret) := by
  cases c with
  | skip => simp only [compCode, Option.some.injEq] at h; subst h; rfl
  | exit id => simp only [compCode, Option.some.injEq] at h; subst h; rfl
  | ret => simp only [compCode, Option.some.injEq] at h; subst h; rfl
  | region id ops dr =>
    simp only [compCode] at h
    rcases region_inv (id := id) h with ⟨l, rfl, rfl, hl⟩ | ⟨l, rfl, rfl⟩
    · exact ⟨id, ops, rfl, hl⟩
    · exact ⟨id, ops, rfl, h⟩
  | seq x y =>
    simp only [compCode, bind, Option.bind_eq_some_iff, Option.some.injEq] at h
    obtain ⟨ax, hx, ay, hy, rfl⟩ := h
    exact ⟨x, y, rfl, hx, hy⟩
  | cond v x y =>
    simp only [compCode, bind, Option.bind_eq_some_iff, Option.some.injEq] at h
    obtain ⟨av, hv, ax, hx, ay, hy, rfl⟩ := h
    exact ⟨v, x, y, rfl, hv, hx, hy⟩
  | block id x =>
    simp only [compCode, Option.map_eq_some_iff] at h
    obtain ⟨ax, hx, rfl⟩ := h
    exact ⟨x, rfl, hx⟩
  | loop x =>
    simp only [compCode, Option.map_eq_some_iff] at h
    obtain ⟨ax, hx, rfl⟩ := h
    exact ⟨x, rfl, hx⟩
  | _ => simp [compCode] at h

theorem Sv.skip (h : Q .normal s) : Sv P Γ k0 .skip Q s := by
  intro E K0 N c a w hm hk hc hf hr
  have := comp_inv hc
  simp only at this
  subst this
  exact wp_skip ⟨.normal, s, rfl, h, hr⟩

theorem Sv.exit {id : Nat} (h : Q (.exit id) s) : Sv P Γ k0 (.exit id) Q s := by
  intro E K0 N c a w hm hk hc hf hr
  have := comp_inv hc
  simp only at this
  subst this
  exact wp_exit ⟨.exit id, s, rfl, h, hr⟩

theorem Sv.ret (h : Q .ret s) : Sv P Γ k0 .ret Q s := by
  intro E K0 N c a w hm hk hc hf hr
  have := comp_inv hc
  simp only at this
  subst this
  exact wp_ret ⟨.ret, s, rfl, h, hr⟩

theorem Sv.drawnT {l : DT} (h : evT P Γ k0 (Q .normal) l s) : Sv P Γ k0 (.drawn l) Q s := by
  intro E K0 N c a w hm hk hc hf hr
  obtain ⟨id, ops, rfl, hl⟩ := comp_inv hc
  refine region_draw_ok hk hm hl hf h hr (fun s' a' w' hk hr' => ⟨.normal, s', rfl, hk, hr'⟩) (fun ch a w h => ?_)
  obtain ⟨e', s', h1, _⟩ := h
  cases e' <;> cases h1

theorem Sv.drawn {l : List (AOper × Nat × Nat)} (h : evDrawn P Γ k0 (Q .normal) l s) : Sv P Γ k0 (.drawn (.fin l)) Q s := .drawnT h
theorem Sv.drawn2 {l : List (AOper × Nat × Nat)} {a b : DT} (h : evDrawn P Γ k0 (fun s => evT P Γ k0 (Q .normal) a s ∧ evT P Γ k0 (Q .normal) b s) l s) : Sv P Γ k0 (.drawn (.alt l a b)) Q s := .drawnT h

/-- a region in order, told as one of the others -/
def ordered (l : List AOper) : List (AOper × Nat × Nat) := l.map fun o => (o, 2, 0)

theorem ops_ordered {K : St → Prop} : ∀ (l : List AOper) (s : St), evDrawn P Γ k0 K (ordered l) s → evOps P Γ k0 K l s := by
  intro l
  induction l with
  | nil => intro s h; exact h
  | cons o l ih =>
    intro s h
    obtain ⟨s', hw, h⟩ := h
    refine ⟨s', hw, ?_⟩
    revert h
    have mono : ∀ {K K' : St → Prop} (hK : ∀ s, K s → K' s) (o : AOper) (s : St), evAct P Γ false o K s → evAct P Γ false o K' s := by
      intro K K' hK o s h
      have call : ∀ {f : FuncId} {first : List AV} {xs : List Arg} {captured : List AV} {s : St} {d : Option Nat}, @CallTo P Γ f first xs captured false ⟨fun r s' => K (s'.put d (some r))⟩ s → @CallTo P Γ f first xs captured false ⟨fun r s' => K' (s'.put d (some r))⟩ s := by
        rintro f first xs captured s d ⟨vs, hv, h2, as, a1, a2, a3, h1, R, b1, b2, b3, b4⟩
        refine ⟨vs, hv, h2, as, a1, a2, a3, h1, R, b1, b2, b3, fun r h1' n' hn hR => ?_⟩
        obtain ⟨c1, h3, c2, c3⟩ := b4 r h1' n' hn hR
        exact ⟨c1, h3, c2, hK _ c3⟩
      unfold evAct at h ⊢
      split
      · rename_i f xs e
        simp only [e] at h
        exact call h
      · rename_i g xs e
        simp only [e] at h
        split at h
        · exact ⟨h.1, call h.2⟩
        · exact h.elim
      · rename_i n1 n2
        have hgo : (match step1 Γ s o.op with
            | some v => K (s.put o.dst (some v))
            | none => match step2 Γ s o.op with
              | some (v, h', n') => (false = true → o.op.keeps = true) ∧ K ((⟨s.env, h', n'⟩ : St).put o.dst v)
              | none => match eqnC Γ s o.op with
                | some (neg, xs) => ∀ b : Bool, (xs ≠ [] → b = neg) → K (s.put o.dst (some (.c (.val (.bool b)))))
                | none => NextTo Γ false o.dst K s o.op) := by
          cases ho : o.op <;> simp only [ho] at h <;> first | exact absurd ho (n1 _ _) | exact absurd ho (n2 _ _) | exact h
        revert hgo
        generalize step1 Γ s o.op = x1
        generalize step2 Γ s o.op = x2
        generalize eqnC Γ s o.op = x3
        intro hgo
        cases x1 with
        | some v => exact hK _ hgo
        | none =>
          cases x2 with
          | none =>
            cases x3 with
            | none => exact NextTo.mono hK hgo
            | some p => exact fun b hb => hK _ (hgo b hb)
          | some p => exact ⟨hgo.1, hK _ hgo.2⟩
    intro h
    unfold evOp0 at h ⊢
    have e0 : (1 == 0) = false := rfl
    split
    · rename_i hg
      simp only [hg] at h
      exact mono ih o s' h
    · rename_i d want hg
      simp only [hg] at h
      split at h
      · rename_i b hb
        exact ⟨fun hbw => mono ih o s' (h.1 hbw), fun hbw => ih _ (h.2 hbw)⟩
      · rename_i hb
        exact ih _ h
      · exact h

theorem Sv.region {l : List AOper} (h : evDrawn P Γ k0 (Q .normal) (ordered l) s) : Sv P Γ k0 (.region l) Q s := by
  intro E K0 N c a w hm hk hc hf hr
  obtain ⟨id, ops, rfl, hl⟩ := comp_inv hc
  exact region_ok hk hl hf (ops_ordered l s h) hr fun s' a' w' hk hr' => ⟨.normal, s', rfl, hk, hr'⟩

theorem Sv.seq {x y : ACode} (h : Sv P Γ k0 x (AThen (Sv P Γ k0 y Q) Q) s) : Sv P Γ k0 (.seq x y) Q s := by
  intro E K0 N c a w hm hk hc hf hr
  obtain ⟨cx, cy, rfl, hx, hy⟩ := comp_inv hc
  simp only [ACode.fits, Bool.and_eq_true] at hf
  exact wp_seq (wp_mono (h E K0 N cx a w hm hk hx hf.1 hr) fun e a' w' hp => post_then (fun s' a' w' h' hr' => h' E K0 N cy a' w' hm hk hy hf.2 hr') hp)

theorem Sv.cond {v : Arg} {x y : ACode} {b : Bool} (hb : v.get Γ s.env = some (.c (.val (.bool b)))) (ht : b = true → Sv P Γ k0 x Q s) (hf : b = false → Sv P Γ k0 y Q s) : Sv P Γ k0 (.cond v x y) Q s := by
  intro E K0 N c a w hm hk hc hf' hr
  obtain ⟨cv, cx, cy, rfl, hcc, hx, hy⟩ := comp_inv hc
  simp only [ACode.fits, Bool.and_eq_true] at hf'
  obtain ⟨μ, κ, H, HE, _⟩ := id hr
  have hev := relC_bool (relV_c (arg_ok H HE hcc hb))
  exact wp_cond_split hev (fun h => ht h E K0 N cx a w hm hk hx hf'.1 hr) (fun h => hf h E K0 N cy a w hm hk hy hf'.2 hr)

theorem Sv.condT {v : Arg} {x y : ACode} (hb : v.get Γ s.env = some (.c (.val (.bool true)))) (ht : Sv P Γ k0 x Q s) : Sv P Γ k0 (.cond v x y) Q s := .cond hb (fun _ => ht) (fun h => by cases h)
theorem Sv.condF {v : Arg} {x y : ACode} (hb : v.get Γ s.env = some (.c (.val (.bool false)))) (hf : Sv P Γ k0 y Q s) : Sv P Γ k0 (.cond v x y) Q s := .cond hb (fun h => by cases h) (fun _ => hf)

theorem Sv.block {id : Nat} {x : ACode} (h : Sv P Γ k0 x (ABlock id Q) s) : Sv P Γ k0 (.block id x) Q s := by
  intro E K0 N c a w hm hk hc hf hr
  obtain ⟨cx, rfl, hx⟩ := comp_inv hc
  refine wp_block (wp_mono (h E K0 N cx a w hm hk hx hf hr) fun e a' w' hp => ?_)
  obtain ⟨e', s', rfl, hq, hr'⟩ := hp
  cases e' with
  | normal => exact ⟨.normal, s', rfl, hq, hr'⟩
  | ret => exact ⟨.ret, s', rfl, hq, hr'⟩
  | exit id' =>
    simp only [ABlock] at hq
    simp only [AExit.as, Exit.inBlock]
    split at hq
    · rename_i h
      rw [if_pos h]
      exact ⟨.normal, s', rfl, hq, hr'⟩
    · rename_i h
      rw [if_neg h]
      exact ⟨.exit id', s', rfl, hq, hr'⟩

/-- a loop, by what holds at the head of a round; 'k': what gets less -/
theorem Sv.loop {x : ACode} {I : Nat → St → Prop} (round : ∀ k s, I k s → Sv P Γ k0 x (AThen (fun s' => ∃ s'' k', Weak k0 s' s'' ∧ k' < k ∧ I k' s'') Q) s) {k : Nat} (h : I k s) : Sv P Γ k0 (.loop x) Q s := by
  intro E K0 N c a w hm hk hc hf hr
  obtain ⟨cx, rfl, hx⟩ := comp_inv hc
  let J : Act → World → Nat → Prop := fun a w k => ∃ s, I k s ∧ HR Γ E K0 N s a w
  have hleast : ∀ a w, ∃ k, (∃ k', J a w k') → J a w k ∧ ∀ j, J a w j → k ≤ j := by
    intro a w
    by_cases h : ∃ k', J a w k'
    · obtain ⟨k, hk⟩ := exists_least h
      exact ⟨k, fun _ => hk⟩
    · exact ⟨0, fun h' => absurd h' h⟩
  let M : Act → World → Nat := fun a w => Classical.choose (hleast a w)
  have hM : ∀ a w, (∃ k', J a w k') → J a w (M a w) ∧ ∀ j, J a w j → M a w ≤ j := fun a w => Classical.choose_spec (hleast a w)
  refine wp_loop (fun a w => ∃ k, J a w k) M ⟨k, s, h, hr⟩ (fun a w hJ => ?_)
  obtain ⟨⟨s1, hI1, hr1⟩, hmin⟩ := hM a w hJ
  refine wp_mono (round _ s1 hI1 E K0 N cx a w hm hk hx hf hr1) fun e a' w' hp => post_then (fun s2 a2 w2 hk2 hr2 => ?_) hp
  obtain ⟨s3, k3, hw3, hlt, hI3⟩ := hk2
  have hJ3 : J a2 w2 k3 := ⟨s3, hI3, hr2.weak hk hw3⟩
  exact ⟨⟨_, hJ3⟩, by have := (hM a2 w2 ⟨_, hJ3⟩).2 _ hJ3; omega⟩
end

/-! ### a function -/
def evRes (s : St) : ARes → Option AV
  | .tmp t => s.env t
  | .cell agg m t => match s.env t with
    | some (.c (.ref b sz i j)) => match s.h b with
      | some (.cells s es) => if s = sz then match es[i]? with
          | some e => rdC agg m (e.drop j)
          | none => none
        else none
      | _ => none
    | some (.c (.rop cs)) => rdC agg m cs
    | _ => none

def evResults (s : St) : List ARes → Option AV
  | [r] => evRes s r
  | rs => (rs.mapM (evRes s)).map .tup

def argEnv (args : List AV) : Nat → Option AV := fun i => args[i]?

/-- What must hold where a function ends. -/
def Ends (rs : List ARes) (k0 : Nat) (R : AV → Heap → Nat → Prop) : AExit → St → Prop := fun e s =>
  match e with
  | .exit _ => False
  | _ => ∃ s1, Weak k0 s s1 ∧ ∃ r, evResults s1 rs = some r ∧ ∃ s2 r', Weak k0 ⟨upd (fun _ => none) 0 (some r), s1.h, s1.n⟩ s2 ∧ s2.env 0 = some r' ∧ R r' s2.h s2.n

def resRun (tmps : Array Value) : ResultVar → Sem Value
  | .tmp t => pure (tmps.getD t undef)
  | .cell a t => do loadVar t (← asAddr (tmps.getD a undef))

def packV : List Value → Value
  | [v] => v
  | vs => .tuple vs.toArray

section
variable {P : Program} {Γ : Glob}

theorem evRes_ok {E : Nat → Prop} {w : World} {μ κ : Nat → Nat} {s : St} {a : Act} (H : HeapOK Γ E w μ κ s.h s.n) (HE : EnvOK (ctx E w μ κ s.h s.n) s.env a) {rv : ResultVar} {ar : ARes} {x : AV} (hc : compRes P rv = some ar) (hx : evRes s ar = some x) :
    ∃ cv, RelV (ctx E w μ κ s.h s.n) x cv ∧ (resRun a.tmps rv).run P w = .ok cv w := by
  cases rv with
  | tmp t =>
    simp only [compRes, Option.some.injEq] at hc
    subst hc
    exact ⟨_, HE t x hx, rfl⟩
  | cell t0 t =>
    simp only [compRes, bind, Option.bind_eq_some_iff, Option.some.injEq] at hc
    obtain ⟨agg, hagg, m, hm, rfl⟩ := hc
    have hcl : compOp P ⟨none, .load t (.tmp t0), 0, "", #[], none⟩ = some (.load agg m (.tmp t0)) := by
      simp only [compOp, hagg, hm, bind, Option.bind_some, compArg]
    have hst : step1 Γ s (.load agg m (.tmp t0)) = some x := by
      obtain ⟨env, h, n⟩ := s
      simp only [step1, Arg.get]
      exact hx
    obtain ⟨cv, hrel, hrun⟩ := step1_ok H HE hcl hst
    refine ⟨cv, hrel, ?_⟩
    have hr := hrun w fun _ _ _ => rfl
    have hex : ∃ ad, a.tmps.getD t0 undef = .pointer (some ad) := by
      simp only [evRes] at hx
      split at hx
      · rename_i b sz i j hb
        exact ⟨_, (relC_ref (relV_c (HE t0 _ hb))).2⟩
      · rename_i cs hb
        obtain ⟨ad, f, h1, _⟩ := relC_rop (relV_c (HE t0 _ hb))
        exact ⟨ad, h1⟩
      · cases hx
    obtain ⟨ad, had⟩ := hex
    have hev : a.eval (.tmp t0) = .pointer (some ad) := had
    simp only [execOp, hev, Instr.loadAt, Instr.sureAddr, Sem.run_bind, Sem.run_pure, Result.andThen_ok] at hr
    simp only [resRun, had, asAddr, Sem.run_bind, Sem.run_pure, Result.andThen_ok]
    cases hq : (loadVar t ad).run P w with
    | ok y w' =>
      rw [hq] at hr
      simp only [Result.andThen_ok, Result.ok.injEq, Next.value.injEq] at hr
      obtain ⟨rfl, rfl⟩ := hr
      rfl
    | halt y w' =>
      rw [hq] at hr
      cases hr

theorem mapM_run {f : ResultVar → Sem Value} {w : World} : ∀ (l : List ResultVar) (cvs : List Value), l.length = cvs.length → (∀ (i : Nat) (x : ResultVar), l[i]? = some x → (f x).run P w = .ok (cvs.getD i undef) w) → (l.mapM f).run P w = .ok cvs w := by
  intro l
  induction l with
  | nil =>
    intro cvs hl _
    have : cvs = [] := List.eq_nil_of_length_eq_zero hl.symm
    subst this
    rfl
  | cons x l ih =>
    intro cvs hl h
    cases cvs with
    | nil => simp at hl
    | cons c cvs =>
      simp only [List.mapM_cons, Sem.run_bind, Sem.run_pure]
      rw [h 0 x rfl]
      simp only [Result.andThen_ok]
      rw [ih cvs (by simpa using hl) (fun i y hy => by simpa using h (i + 1) y (by simpa using hy))]
      rfl

theorem results_run {fn : Func} {tmps : Array Value} {w : World} {cvs : List Value} (hl : fn.results.toList.length = cvs.length) (h : ∀ (i : Nat) (x : ResultVar), fn.results.toList[i]? = some x → (resRun tmps x).run P w = .ok (cvs.getD i undef) w) :
    (results fn tmps).run P w = .ok (packV cvs) w := by
  have key : (results fn tmps).run P w = ((fn.results.toList.mapM (resRun tmps)).run P w).andThen (fun vs w' => (pure (if h : vs.toArray.size = 1 then vs.toArray[0] else .tuple vs.toArray) : Sem Value).run P w') := by
    unfold results
    rw [Array.mapM_eq_mapM_toList]
    simp only [bind_map_left, Sem.run_bind]
    rfl
  rw [key, mapM_run _ cvs hl h]
  simp only [Result.andThen_ok, Sem.run_pure]
  congr 1
  match cvs with
  | [] => rfl
  | [v] => rfl
  | v :: u :: r => rfl

theorem evResults_ok {E : Nat → Prop} {w : World} {μ κ : Nat → Nat} {s : St} {a : Act} (H : HeapOK Γ E w μ κ s.h s.n) (HE : EnvOK (ctx E w μ κ s.h s.n) s.env a) {fn : Func} {rs : List ARes} {x : AV} (hc : fn.results.toList.mapM (compRes P) = some rs)
    (hx : evResults s rs = some x) : ∃ cv, RelV (ctx E w μ κ s.h s.n) x cv ∧ (results fn a.tmps).run P w = .ok cv w := by
  obtain ⟨h1, h2⟩ := mapM_get hc
  have each : ∀ (xs : List AV), rs.mapM (evRes s) = some xs → ∃ cvs : List Value, xs.length = cvs.length ∧ (∀ (i : Nat) (y : AV), xs[i]? = some y → RelV (ctx E w μ κ s.h s.n) y (cvs.getD i undef)) ∧
      (results fn a.tmps).run P w = .ok (packV cvs) w := by
    intro xs hxs
    obtain ⟨k1, k2⟩ := mapM_get hxs
    have hex : ∀ i : Nat, ∃ cv, ∀ rv, fn.results.toList[i]? = some rv → ∃ y, xs[i]? = some y ∧ RelV (ctx E w μ κ s.h s.n) y cv ∧ (resRun a.tmps rv).run P w = .ok cv w := by
      intro i
      cases hrv : fn.results.toList[i]? with
      | none => exact ⟨undef, fun rv h => by cases h⟩
      | some rv =>
        obtain ⟨ar, har, hcr⟩ := h2 i rv hrv
        obtain ⟨y, hy, hey⟩ := k2 i ar har
        obtain ⟨cv, hrel, hrun⟩ := evRes_ok H HE hcr hey
        exact ⟨cv, fun rv' h => by cases h; exact ⟨y, hy, hrel, hrun⟩⟩
    let g := fun i => Classical.choose (hex i)
    have hg : ∀ i rv, fn.results.toList[i]? = some rv → ∃ y, xs[i]? = some y ∧ RelV (ctx E w μ κ s.h s.n) y (g i) ∧ (resRun a.tmps rv).run P w = .ok (g i) w := fun i => Classical.choose_spec (hex i)
    have hgd : ∀ i, i < fn.results.toList.length → ((List.range fn.results.toList.length).map g).getD i undef = g i := by
      intro i hi
      simp only [List.getD, List.getElem?_map, List.getElem?_range hi, Option.map_some, Option.getD_some]
    refine ⟨(List.range fn.results.toList.length).map g, by simp [k1, h1], fun i y hy => ?_, results_run (fn := fn) (cvs := (List.range fn.results.toList.length).map g) (by simp) fun i rv hrv => ?_⟩
    · have hi : i < fn.results.toList.length := by have := (List.getElem?_eq_some_iff.1 hy).1; omega
      obtain ⟨y', hy', hrel, _⟩ := hg i _ (List.getElem?_eq_getElem hi)
      rw [hy] at hy'
      cases hy'
      rw [hgd i hi]
      exact hrel
    · have hi : i < fn.results.toList.length := (List.getElem?_eq_some_iff.1 hrv).1
      obtain ⟨y', hy', _, hrun⟩ := hg i rv hrv
      rw [hgd i hi]
      exact hrun
  have many : rs.length ≠ 1 → (rs.mapM (evRes s)).map .tup = some x → ∃ cv, RelV (ctx E w μ κ s.h s.n) x cv ∧ (results fn a.tmps).run P w = .ok cv w := by
    intro hne hm
    obtain ⟨xs, hxs, rfl⟩ := Option.map_eq_some_iff.1 hm
    obtain ⟨cvs, l1, l2, l3⟩ := each xs hxs
    have hl := (mapM_get hxs).1
    have hcl : cvs.length ≠ 1 := by omega
    refine ⟨.tuple cvs.toArray, .tup (by simpa using l1) (fun i y hy => ?_), ?_⟩
    · have := l2 i y hy
      rwa [show cvs.toArray.getD i undef = cvs.getD i undef by simp [List.getD]]
    · rw [l3]
      match cvs, hcl with
      | [], _ => rfl
      | [v], h => exact absurd rfl h
      | v :: u :: r, _ => rfl
  match rs, hx with
  | [r], hx =>
    obtain ⟨cvs, l1, l2, l3⟩ := each [x] (by simp only [List.mapM_cons, List.mapM_nil, bind, pure]; rw [show evRes s r = some x from hx]; rfl)
    match cvs, l1 with
    | [v], _ => exact ⟨v, l2 0 x rfl, l3⟩
  | [], hx => exact many (by simp) hx
  | r :: r' :: rs, hx => exact many (by simp) hx

/-- A function by its conditions. -/
theorem acalls_of_sv (hm : P.follows .mixedOrders = true) {f : FuncId} {af : AFunc} {args : List AV} {h : Heap} {n : Nat} {R : AV → Heap → Nat → Prop} (hf : compFunc P f = some af)
    (he : Sv P Γ n af.body (Ends af.results n R) ⟨argEnv args, h, n⟩) : ACalls P Γ f args h n R := by
  simp only [compFunc, bind, Option.bind_eq_some_iff] at hf
  obtain ⟨fn, hfn, c, hc, b, hb, rs, hrs, hf⟩ := hf
  split at hf
  · rename_i hfit
    simp only [Option.some.injEq] at hf
    subst hf
    intro E w μ κ cargs H hl hr
    refine calls_of_wp hfn hc (wp_mono (he E (ctx E w μ κ h n) fn.ntmps c _ w hm (Nat.le_refl _) hb hfit ⟨μ, κ, H, fun d v hv => ?_, .refl _ _, rfl, by simp; omega⟩) fun e a w' hp => ?_)
    · show RelV _ v ((cargs ++ Array.replicate (fn.ntmps - cargs.size) undef).getD d undef)
      have hd : d < cargs.size := by rw [hl]; exact (List.getElem?_eq_some_iff.1 hv).1
      have : (cargs ++ Array.replicate (fn.ntmps - cargs.size) undef).getD d undef = cargs.getD d undef := by
        rw [Array.getD_eq_getD_getElem?, Array.getD_eq_getD_getElem?, Array.getElem?_append_left hd]
      rw [this]
      exact hr d v hv
    · obtain ⟨e', s', rfl, hq, hr'⟩ := hp
      have fin : (∃ s1, Weak n s' s1 ∧ ∃ r, evResults s1 rs = some r ∧ ∃ s2 r', Weak n ⟨upd (fun _ => none) 0 (some r), s1.h, s1.n⟩ s2 ∧ s2.env 0 = some r' ∧ R r' s2.h s2.n) →
          a.defers = [] ∧ ∃ v, (results fn a.tmps).run P w' = .ok v w' ∧ ∃ (cv : Value) (r : AV) (h' : Heap) (n' : Nat) (μ' κ' : Nat → Nat), Ending.returned v = .returned cv ∧ R r h' n' ∧ HeapOK Γ E w' μ' κ' h' n' ∧
          From E (ctx E w μ κ h n) (ctx E w' μ' κ' h' n') ∧ RelV (ctx E w' μ' κ' h' n') r cv := by
        rintro ⟨s1, hw1, r, hres, s2, r', hw2, hr2, hR⟩
        obtain ⟨μ1, κ1, H1, HE1, F1, hdf, hN⟩ := hr'.weak (Nat.le_refl _) hw1
        obtain ⟨cv, hrel, hrun⟩ := evResults_ok H1 HE1 hrs hres
        have h3 : HR Γ E (ctx E w μ κ h n) 0 ⟨upd (fun _ => none) 0 (some r), s1.h, s1.n⟩ { a with tmps := #[cv] } w' := by
          refine ⟨μ1, κ1, H1, fun d v hv => ?_, F1, hdf, Nat.zero_le _⟩
          by_cases e : d = 0
          · subst e
            have e1 : (upd (fun _ => none) 0 (some r) : Nat → Option AV) 0 = some r := upd_same _ _ _
            replace hv := e1.symm.trans hv
            cases hv
            exact hrel
          · have e1 : (upd (fun _ => none) 0 (some r) : Nat → Option AV) d = none := upd_ne _ _ e
            replace hv := e1.symm.trans hv
            cases hv
        obtain ⟨μ2, κ2, H2, HE2, F2, _, _⟩ := h3.weak (Nat.le_refl _) hw2
        exact ⟨hdf, cv, hrun, cv, r', s2.h, s2.n, μ2, κ2, rfl, hR, H2, F2, HE2 0 r' hr2⟩
      cases e' with
      | normal => exact fin hq
      | ret => exact fin hq
      | exit id => exact hq.elim
  · cases hf

/-- A call of what is told of more. -/
theorem ACalls.mono {f : FuncId} {args : List AV} {h : Heap} {n : Nat} {R R' : AV → Heap → Nat → Prop} (hc : ACalls P Γ f args h n R) (hr : ∀ r h' n', R r h' n' → R' r h' n') : ACalls P Γ f args h n R' :=
  fun E w μ κ cargs H hl ha => Calls.mono (hc E w μ κ cargs H hl ha) fun e w' ⟨cv, r, h', n', μ', κ', h1, h2, h3⟩ => ⟨cv, r, h', n', μ', κ', h1, hr _ _ _ h2, h3⟩

end
end Go.Proofs.YtolmbcngghkfiaaDoorBv
