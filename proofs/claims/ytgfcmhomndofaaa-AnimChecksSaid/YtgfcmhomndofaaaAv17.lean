/- The calculus: code and functions: from the conditions to the model's calls. It proves nothing of any program. -/
import Derived.Test.YtgfcmhomndofaaaAv16
namespace Go.Proofs.YtgfcmhomndofaaaAv
open Go
set_option linter.unusedVariables false
set_option linter.unusedSimpArgs false

/-- A loop, by what holds at the head of each round and what gets less. -/
class Body where
  go : (AExit → St → Prop) → St → Prop
class Post' where
  go : AExit → St → Prop
def LoopTo [body : Body] [Q : Post'] (s : St) : Prop :=
  ∃ (I : St → Prop) (m : St → Nat), (∃ s', Weak s s' ∧ I s') ∧ ∀ s, I s → body.go (AThen (fun s' => ∃ s'', Weak s' s'' ∧ I s'' ∧ m s'' < m s) Q.go) s

def ev (P : Program) (Γ : Glob) : ACode → (AExit → St → Prop) → St → Prop
  | .skip, Q, s => Q .normal s
  | .region ops, Q, s => evOps P Γ (Q .normal) ops s
  | .drawn ops, Q, s => evDrawn P Γ (Q .normal) ops s
  | .seq a b, Q, s => ev P Γ a (AThen (ev P Γ b Q) Q) s
  | .cond c t e, Q, s => match c.get Γ s.env with
    | some (.c (.val (.bool b))) => @CondTo b ⟨ev P Γ t Q s⟩ ⟨ev P Γ e Q s⟩
    | _ => False
  | .block id b, Q, s => ev P Γ b (ABlock id Q) s
  | .loop b, Q, s => @LoopTo ⟨ev P Γ b⟩ ⟨Q⟩ s
  | .exit id, Q, s => Q (.exit id) s
  | .ret, Q, s => Q .ret s

def AExit.as : AExit → Exit
  | .normal => .normal
  | .exit id => .exit id
  | .ret => .ret

/-- What holds in the model, by what is told. -/
def Post (Γ : Glob) (E : Nat → Prop) (K0 : Ctx) (N : Nat) (Q : AExit → St → Prop) : Exit → Act → World → Prop := fun e a w => ∃ e' s, e = AExit.as e' ∧ Q e' s ∧ HR Γ E K0 N s a w

theorem exists_least {p : Nat → Prop} (h : ∃ k, p k) : ∃ k, p k ∧ ∀ j, p j → k ≤ j := by
  obtain ⟨k, hk⟩ := h
  induction k using Nat.strongRecOn with
  | _ k ih =>
    by_cases h2 : ∃ j, j < k ∧ p j
    · obtain ⟨j, hj, hp⟩ := h2
      exact ih j hj hp
    · exact ⟨k, hk, fun j hj => Nat.le_of_not_lt fun hlt => h2 ⟨j, hlt, hj⟩⟩

section
variable {P : Program} {Γ : Glob} {E : Nat → Prop} {K0 : Ctx} {N : Nat}

theorem post_then {K : St → Prop} {Q : AExit → St → Prop} {R : Act → World → Prop} (h : ∀ s a w, K s → HR Γ E K0 N s a w → R a w) {e : Exit} {a : Act} {w : World} (hp : Post Γ E K0 N (AThen K Q) e a w) :
    Exit.then R (Post Γ E K0 N Q) e a w := by
  obtain ⟨e', s, rfl, hq, hr⟩ := hp
  cases e' with
  | normal => exact h s a w hq hr
  | exit id => exact ⟨.exit id, s, rfl, hq, hr⟩
  | ret => exact ⟨.ret, s, rfl, hq, hr⟩

theorem ev_ok (hm : P.follows .mixedOrders = true) : ∀ (c : Code) (ac : ACode), compCode P c = some ac → ac.fits N = true → ∀ (Q : AExit → St → Prop) (s : St) (a : Act) (w : World), ev P Γ ac Q s → HR Γ E K0 N s a w →
    c.wp P (Post Γ E K0 N Q) a w := by
  intro c
  induction c with
  | skip =>
    intro ac hc hf Q s a w he hr
    simp only [compCode, Option.some.injEq] at hc
    subst hc
    exact wp_skip ⟨.normal, s, rfl, he, hr⟩
  | region id ops draw =>
    intro ac hc hf Q s a w he hr
    simp only [compCode] at hc
    cases draw with
    | false =>
      have hc0 := hc
      simp only [compRegion, bind, Option.bind_eq_some_iff, Bool.false_eq_true, if_false, Option.some.injEq] at hc
      obtain ⟨l, hl, rfl⟩ := hc
      exact region_ok hl hf he hr fun s' a' w' hk hr' => ⟨.normal, s', rfl, hk, hr'⟩
    | true =>
      have hd : ∃ l, ac = .drawn l := by
        have hc0 := hc
        simp only [compRegion, bind, Option.bind_eq_some_iff, if_true] at hc0
        obtain ⟨_, _, hc0⟩ := hc0
        split at hc0
        · simp only [Option.bind_eq_some_iff, Option.some.injEq] at hc0
          obtain ⟨_, _, rfl⟩ := hc0
          exact ⟨_, rfl⟩
        · cases hc0
      obtain ⟨l, rfl⟩ := hd
      refine region_draw_ok hm hc hf he hr (fun s' a' w' hk hr' => ⟨.normal, s', rfl, hk, hr'⟩) (fun ch a w h => ?_)
      obtain ⟨e', s', h1, _⟩ := h
      cases e' <;> cases h1
  | seq x y ihx ihy =>
    intro ac hc hf Q s a w he hr
    simp only [compCode, bind, Option.bind_eq_some_iff, Option.some.injEq] at hc
    obtain ⟨ax, hx, ay, hy, rfl⟩ := hc
    simp only [ACode.fits, Bool.and_eq_true] at hf
    exact wp_seq (wp_mono (ihx ax hx hf.1 _ s a w he hr) fun e a' w' hp => post_then (fun s' a' w' hk hr' => ihy ay hy hf.2 Q s' a' w' hk hr') hp)
  | cond c x y ihx ihy =>
    intro ac hc hf Q s a w he hr
    simp only [compCode, bind, Option.bind_eq_some_iff, Option.some.injEq] at hc
    obtain ⟨c', hcc, ax, hx, ay, hy, rfl⟩ := hc
    simp only [ACode.fits, Bool.and_eq_true] at hf
    simp only [ev] at he
    split at he
    · rename_i b hb
      obtain ⟨μ, κ, H, HE, _⟩ := id hr
      have hev := relC_bool (relV_c (arg_ok H HE hcc hb))
      exact wp_cond_split hev (fun h => ihx ax hx hf.1 Q s a w (he.1 h) hr) (fun h => ihy ay hy hf.2 Q s a w (he.2 h) hr)
    · exact he.elim
  | block id b ih =>
    intro ac hc hf Q s a w he hr
    simp only [compCode, Option.map_eq_some_iff] at hc
    obtain ⟨ab, hb, rfl⟩ := hc
    refine wp_block (wp_mono (ih ab hb hf _ s a w he hr) fun e a' w' hp => ?_)
    obtain ⟨e', s', rfl, hq, hr'⟩ := hp
    cases e' with
    | normal => exact ⟨.normal, s', rfl, hq, hr'⟩
    | ret => exact ⟨.ret, s', rfl, hq, hr'⟩
    | exit id' =>
      simp only [ABlock] at hq
      simp only [AExit.as, Exit.inBlock]
      split at hq
      · rename_i h
        rw [if_pos h]
        exact ⟨.normal, s', rfl, hq, hr'⟩
      · rename_i h
        rw [if_neg h]
        exact ⟨.exit id', s', rfl, hq, hr'⟩
  | loop b ih =>
    intro ac hc hf Q s a w he hr
    simp only [compCode, Option.map_eq_some_iff] at hc
    obtain ⟨ab, hb, rfl⟩ := hc
    obtain ⟨I, m, ⟨s', hw', hI'⟩, hround⟩ := he
    let J : Act → World → Nat → Prop := fun a w k => ∃ s, I s ∧ HR Γ E K0 N s a w ∧ m s = k
    have hleast : ∀ a w, ∃ k, (∃ k', J a w k') → J a w k ∧ ∀ j, J a w j → k ≤ j := by
      intro a w
      by_cases h : ∃ k', J a w k'
      · obtain ⟨k, hk⟩ := exists_least h
        exact ⟨k, fun _ => hk⟩
      · exact ⟨0, fun h' => absurd h' h⟩
    let M : Act → World → Nat := fun a w => Classical.choose (hleast a w)
    have hM : ∀ a w, (∃ k', J a w k') → J a w (M a w) ∧ ∀ j, J a w j → M a w ≤ j := fun a w => Classical.choose_spec (hleast a w)
    refine wp_loop (fun a w => ∃ k, J a w k) M ⟨_, s', hI', hr.weak hw', rfl⟩ (fun a w hJ => ?_)
    obtain ⟨⟨s1, hI1, hr1, hm1⟩, hmin⟩ := hM a w hJ
    refine wp_mono (ih ab hb hf _ s1 a w (hround s1 hI1) hr1) fun e a' w' hp => post_then (fun s2 a2 w2 hk hr2 => ?_) hp
    obtain ⟨s3, hw3, hI3, hlt⟩ := hk
    have hJ3 : J a2 w2 (m s3) := ⟨s3, hI3, hr2.weak hw3, rfl⟩
    exact ⟨⟨_, hJ3⟩, by have := (hM a2 w2 ⟨_, hJ3⟩).2 _ hJ3; omega⟩
  | exit id =>
    intro ac hc hf Q s a w he hr
    simp only [compCode, Option.some.injEq] at hc
    subst hc
    exact wp_exit ⟨.exit id, s, rfl, he, hr⟩
  | ret =>
    intro ac hc hf Q s a w he hr
    simp only [compCode, Option.some.injEq] at hc
    subst hc
    exact wp_ret ⟨.ret, s, rfl, he, hr⟩
  | _ =>
    intro ac hc
    simp [compCode] at hc

end

/-! ### a function -/
def evRes (s : St) : ARes → Option AV
  | .tmp t => s.env t
  | .cell agg m t => match s.env t with
    | some (.c (.ref b sz i j)) => match s.h b with
      | some (.cells s es) => if s = sz then match es[i]? with
          | some e => rdC agg m (e.drop j)
          | none => none
        else none
      | _ => none
    | some (.c (.rop cs)) => rdC agg m cs
    | _ => none

def evResults (s : St) : List ARes → Option AV
  | [r] => evRes s r
  | rs => (rs.mapM (evRes s)).map .tup

def argEnv (args : List AV) : Nat → Option AV := fun i => args[i]?

/-- What must hold where a function ends. -/
def Ends (rs : List ARes) (R : AV → Heap → Nat → Prop) : AExit → St → Prop := fun e s =>
  match e with
  | .exit _ => False
  | _ => ∃ r r' h', evResults s rs = some r ∧ (∀ b x, h' b = some x → s.h b = some x) ∧ AVAs s.h h' r r' ∧ R r' h' s.n

def resRun (tmps : Array Value) : ResultVar → Sem Value
  | .tmp t => pure (tmps.getD t undef)
  | .cell a t => do loadVar t (← asAddr (tmps.getD a undef))

def packV : List Value → Value
  | [v] => v
  | vs => .tuple vs.toArray

section
variable {P : Program} {Γ : Glob}

theorem evRes_ok {E : Nat → Prop} {w : World} {μ κ : Nat → Nat} {s : St} {a : Act} (H : HeapOK Γ E w μ κ s.h s.n) (HE : EnvOK (ctx E w μ κ s.h s.n) s.env a) {rv : ResultVar} {ar : ARes} {x : AV} (hc : compRes P rv = some ar) (hx : evRes s ar = some x) :
    ∃ cv, RelV (ctx E w μ κ s.h s.n) x cv ∧ (resRun a.tmps rv).run P w = .ok cv w := by
  cases rv with
  | tmp t =>
    simp only [compRes, Option.some.injEq] at hc
    subst hc
    exact ⟨_, HE t x hx, rfl⟩
  | cell t0 t =>
    simp only [compRes, bind, Option.bind_eq_some_iff, Option.some.injEq] at hc
    obtain ⟨agg, hagg, m, hm, rfl⟩ := hc
    have hcl : compOp P ⟨none, .load t (.tmp t0), 0, "", #[], none⟩ = some (.load agg m (.tmp t0)) := by
      simp only [compOp, hagg, hm, bind, Option.bind_some, compArg]
    have hst : step1 Γ s (.load agg m (.tmp t0)) = some x := by
      obtain ⟨env, h, n⟩ := s
      simp only [step1, Arg.get]
      exact hx
    obtain ⟨cv, hrel, hrun⟩ := step1_ok H HE hcl hst
    refine ⟨cv, hrel, ?_⟩
    have hr := hrun w fun _ _ => rfl
    have hex : ∃ ad, a.tmps.getD t0 undef = .pointer (some ad) := by
      simp only [evRes] at hx
      split at hx
      · rename_i b sz i j hb
        exact ⟨_, (relC_ref (relV_c (HE t0 _ hb))).2⟩
      · rename_i cs hb
        obtain ⟨ad, f, h1, _⟩ := relC_rop (relV_c (HE t0 _ hb))
        exact ⟨ad, h1⟩
      · cases hx
    obtain ⟨ad, had⟩ := hex
    have hev : a.eval (.tmp t0) = .pointer (some ad) := had
    simp only [execOp, hev, Instr.loadAt, Instr.sureAddr, Sem.run_bind, Sem.run_pure, Result.andThen_ok] at hr
    simp only [resRun, had, asAddr, Sem.run_bind, Sem.run_pure, Result.andThen_ok]
    cases hq : (loadVar t ad).run P w with
    | ok y w' =>
      rw [hq] at hr
      simp only [Result.andThen_ok, Result.ok.injEq, Next.value.injEq] at hr
      obtain ⟨rfl, rfl⟩ := hr
      rfl
    | halt y w' =>
      rw [hq] at hr
      cases hr

theorem mapM_run {f : ResultVar → Sem Value} {w : World} : ∀ (l : List ResultVar) (cvs : List Value), l.length = cvs.length → (∀ (i : Nat) (x : ResultVar), l[i]? = some x → (f x).run P w = .ok (cvs.getD i undef) w) → (l.mapM f).run P w = .ok cvs w := by
  intro l
  induction l with
  | nil =>
    intro cvs hl _
    have : cvs = [] := List.eq_nil_of_length_eq_zero hl.symm
    subst this
    rfl
  | cons x l ih =>
    intro cvs hl h
    cases cvs with
    | nil => simp at hl
    | cons c cvs =>
      simp only [List.mapM_cons, Sem.run_bind, Sem.run_pure]
      rw [h 0 x rfl]
      simp only [Result.andThen_ok]
      rw [ih cvs (by simpa using hl) (fun i y hy => by simpa using h (i + 1) y (by simpa using hy))]
      rfl

theorem results_run {fn : Func} {tmps : Array Value} {w : World} {cvs : List Value} (hl : fn.results.toList.length = cvs.length) (h : ∀ (i : Nat) (x : ResultVar), fn.results.toList[i]? = some x → (resRun tmps x).run P w = .ok (cvs.getD i undef) w) :
    (results fn tmps).run P w = .ok (packV cvs) w := by
  have key : (results fn tmps).run P w = ((fn.results.toList.mapM (resRun tmps)).run P w).andThen (fun vs w' => (pure (if h : vs.toArray.size = 1 then vs.toArray[0] else .tuple vs.toArray) : Sem Value).run P w') := by
    unfold results
    rw [Array.mapM_eq_mapM_toList]
    simp only [bind_map_left, Sem.run_bind]
    rfl
  rw [key, mapM_run _ cvs hl h]
  simp only [Result.andThen_ok, Sem.run_pure]
  congr 1
  match cvs with
  | [] => rfl
  | [v] => rfl
  | v :: u :: r => rfl

theorem evResults_ok {E : Nat → Prop} {w : World} {μ κ : Nat → Nat} {s : St} {a : Act} (H : HeapOK Γ E w μ κ s.h s.n) (HE : EnvOK (ctx E w μ κ s.h s.n) s.env a) {fn : Func} {rs : List ARes} {x : AV} (hc : fn.results.toList.mapM (compRes P) = some rs)
    (hx : evResults s rs = some x) : ∃ cv, RelV (ctx E w μ κ s.h s.n) x cv ∧ (results fn a.tmps).run P w = .ok cv w := by
  obtain ⟨h1, h2⟩ := mapM_get hc
  have each : ∀ (xs : List AV), rs.mapM (evRes s) = some xs → ∃ cvs : List Value, xs.length = cvs.length ∧ (∀ (i : Nat) (y : AV), xs[i]? = some y → RelV (ctx E w μ κ s.h s.n) y (cvs.getD i undef)) ∧
      (results fn a.tmps).run P w = .ok (packV cvs) w := by
    intro xs hxs
    obtain ⟨k1, k2⟩ := mapM_get hxs
    have hex : ∀ i : Nat, ∃ cv, ∀ rv, fn.results.toList[i]? = some rv → ∃ y, xs[i]? = some y ∧ RelV (ctx E w μ κ s.h s.n) y cv ∧ (resRun a.tmps rv).run P w = .ok cv w := by
      intro i
      cases hrv : fn.results.toList[i]? with
      | none => exact ⟨undef, fun rv h => by cases h⟩
      | some rv =>
        obtain ⟨ar, har, hcr⟩ := h2 i rv hrv
        obtain ⟨y, hy, hey⟩ := k2 i ar har
        obtain ⟨cv, hrel, hrun⟩ := evRes_ok H HE hcr hey
        exact ⟨cv, fun rv' h => by cases h; exact ⟨y, hy, hrel, hrun⟩⟩
    let g := fun i => Classical.choose (hex i)
    have hg : ∀ i rv, fn.results.toList[i]? = some rv → ∃ y, xs[i]? = some y ∧ RelV (ctx E w μ κ s.h s.n) y (g i) ∧ (resRun a.tmps rv).run P w = .ok (g i) w := fun i => Classical.choose_spec (hex i)
    have hgd : ∀ i, i < fn.results.toList.length → ((List.range fn.results.toList.length).map g).getD i undef = g i := by
      intro i hi
      simp only [List.getD, List.getElem?_map, List.getElem?_range hi, Option.map_some, Option.getD_some]
    refine ⟨(List.range fn.results.toList.length).map g, by simp [k1, h1], fun i y hy => ?_, results_run (fn := fn) (cvs := (List.range fn.results.toList.length).map g) (by simp) fun i rv hrv => ?_⟩
    · have hi : i < fn.results.toList.length := by have := (List.getElem?_eq_some_iff.1 hy).1; omega
      obtain ⟨y', hy', hrel, _⟩ := hg i _ (List.getElem?_eq_getElem hi)
      rw [hy] at hy'
      cases hy'
      rw [hgd i hi]
      exact hrel
    · have hi : i < fn.results.toList.length := (List.getElem?_eq_some_iff.1 hrv).1
      obtain ⟨y', hy', _, hrun⟩ := hg i rv hrv
      rw [hgd i hi]
      exact hrun
  have many : rs.length ≠ 1 → (rs.mapM (evRes s)).map .tup = some x → ∃ cv, RelV (ctx E w μ κ s.h s.n) x cv ∧ (results fn a.tmps).run P w = .ok cv w := by
    intro hne hm
    obtain ⟨xs, hxs, rfl⟩ := Option.map_eq_some_iff.1 hm
    obtain ⟨cvs, l1, l2, l3⟩ := each xs hxs
    have hl := (mapM_get hxs).1
    have hcl : cvs.length ≠ 1 := by omega
    refine ⟨.tuple cvs.toArray, .tup (by simpa using l1) (fun i y hy => ?_), ?_⟩
    · have := l2 i y hy
      rwa [show cvs.toArray.getD i undef = cvs.getD i undef by simp [List.getD]]
    · rw [l3]
      match cvs, hcl with
      | [], _ => rfl
      | [v], h => exact absurd rfl h
      | v :: u :: r, _ => rfl
  match rs, hx with
  | [r], hx =>
    obtain ⟨cvs, l1, l2, l3⟩ := each [x] (by simp only [List.mapM_cons, List.mapM_nil, bind, pure]; rw [show evRes s r = some x from hx]; rfl)
    match cvs, l1 with
    | [v], _ => exact ⟨v, l2 0 x rfl, l3⟩
  | [], hx => exact many (by simp) hx
  | r :: r' :: rs, hx => exact many (by simp) hx

/-- A function by its conditions. -/
theorem acalls_of_ev (hm : P.follows .mixedOrders = true) {f : FuncId} {af : AFunc} {args : List AV} {h : Heap} {n : Nat} {R : AV → Heap → Nat → Prop} {Q : AExit → St → Prop} (hf : compFunc P f = some af)
    (hQ : ∀ e s, Q e s → Ends af.results R e s) (he : ev P Γ af.body Q ⟨argEnv args, h, n⟩) : ACalls P Γ f args h n R := by
  simp only [compFunc, bind, Option.bind_eq_some_iff] at hf
  obtain ⟨fn, hfn, c, hc, b, hb, rs, hrs, hf⟩ := hf
  split at hf
  · rename_i hfit
    simp only [Option.some.injEq] at hf
    subst hf
    intro E w μ κ cargs H hl hr
    refine calls_of_wp hfn hc (wp_mono (ev_ok hm (E := E) (K0 := ctx E w μ κ h n) (N := fn.ntmps) c b hb hfit _ _ _ w he ⟨μ, κ, H, fun d v hv => ?_, .refl _ _, rfl, by simp; omega⟩) fun e a w' hp => ?_)
    · show RelV _ v ((cargs ++ Array.replicate (fn.ntmps - cargs.size) undef).getD d undef)
      have hd : d < cargs.size := by rw [hl]; exact (List.getElem?_eq_some_iff.1 hv).1
      have : (cargs ++ Array.replicate (fn.ntmps - cargs.size) undef).getD d undef = cargs.getD d undef := by
        rw [Array.getD_eq_getD_getElem?, Array.getD_eq_getD_getElem?, Array.getElem?_append_left hd]
      rw [this]
      exact hr d v hv
    · obtain ⟨e', s', rfl, hq, hr'⟩ := hp
      replace hq := hQ _ _ hq
      have fin : (∃ r r' h', evResults s' rs = some r ∧ (∀ b x, h' b = some x → s'.h b = some x) ∧ AVAs s'.h h' r r' ∧ R r' h' s'.n) → a.defers = [] ∧ ∃ v, (results fn a.tmps).run P w' = .ok v w' ∧ ∃ (cv : Value) (r : AV) (h' : Heap) (n' : Nat) (μ' κ' : Nat → Nat), Ending.returned v = .returned cv ∧ R r h' n' ∧ HeapOK Γ E w' μ' κ' h' n' ∧
          From E (ctx E w μ κ h n) (ctx E w' μ' κ' h' n') ∧ RelV (ctx E w' μ' κ' h' n') r cv := by
        rintro ⟨r, r', h', hres, hl, has, hR⟩
        obtain ⟨μ', κ', H', HE', F', hdf, hN⟩ := hr'
        obtain ⟨cv, hrel, hrun⟩ := evResults_ok H' HE' hrs hres
        obtain ⟨H2, F2⟩ := H'.less hl
        exact ⟨hdf, cv, hrun, cv, r', h', s'.n, μ', κ', rfl, hR, H2, F'.trans F2, has.ok H' hl hrel⟩
      cases e' with
      | normal => exact fin hq
      | ret => exact fin hq
      | exit id => exact hq.elim
  · cases hf

/-- What must hold where a function ends that leaves nothing of its own. -/
def EndsPure (rs : List ARes) (r : AV) : AExit → St → Prop := fun e s =>
  match e with
  | .exit _ => False
  | _ => evResults s rs = some r

theorem apure_of_ev (hm : P.follows .mixedOrders = true) {f : FuncId} {af : AFunc} {args : List AV} {r : AV} (hf : compFunc P f = some af)
    (he : ∀ n, ev P Γ af.body (EndsPure af.results r) ⟨argEnv args, fun _ => none, n⟩) : APure P Γ f args r := fun n =>
  acalls_of_ev hm hf (fun e s hq => by
    cases e with
    | exit id => exact hq.elim
    | normal => exact ⟨r, r, fun _ => none, hq, fun b x h => (by cases h), .refl, rfl, rfl⟩
    | ret => exact ⟨r, r, fun _ => none, hq, fun b x h => (by cases h), .refl, rfl, rfl⟩) (he n)

/-- A call of what is told of more. -/
theorem ACalls.mono {f : FuncId} {args : List AV} {h : Heap} {n : Nat} {R R' : AV → Heap → Nat → Prop} (hc : ACalls P Γ f args h n R) (hr : ∀ r h' n', R r h' n' → R' r h' n') : ACalls P Γ f args h n R' :=
  fun E w μ κ cargs H hl ha => Calls.mono (hc E w μ κ cargs H hl ha) fun e w' ⟨cv, r, h', n', μ', κ', h1, h2, h3⟩ => ⟨cv, r, h', n', μ', κ', h1, hr _ _ _ h2, h3⟩

end
end Go.Proofs.YtgfcmhomndofaaaAv
