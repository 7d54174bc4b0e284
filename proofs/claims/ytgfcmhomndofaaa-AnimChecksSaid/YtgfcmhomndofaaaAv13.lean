/- The calculus: states, what is kept, calls of a function by its contract, and the code's conditions. It proves nothing of any program. -/
import Derived.Test.YtgfcmhomndofaaaAv12
import Derived.OrdersHeld
namespace Go.Proofs.YtgfcmhomndofaaaAv
open Go
set_option linter.unusedVariables false
set_option linter.unusedSimpArgs false

def St.put (s : St) (d : Option Nat) (v : Option AV) : St := match d with
  | some d => ⟨upd s.env d v, s.h, s.n⟩
  | none => s

inductive AExit where
  | normal
  | exit (id : Nat)
  | ret

/-- What a call of 'f' does, from these arguments, over this heap: it returns, and 'R' holds of the result and of the heap that is told. -/
def ACalls (P : Program) (Γ : Glob) (f : FuncId) (args : List AV) (h : Heap) (n : Nat) (R : AV → Heap → Nat → Prop) : Prop :=
  ∀ (E : Nat → Prop) (w : World) (μ κ : Nat → Nat) (cargs : Array Value), HeapOK Γ E w μ κ h n → cargs.size = args.length →
    (∀ (i : Nat) (x : AV), args[i]? = some x → RelV (ctx E w μ κ h n) x (cargs.getD i undef)) →
    Calls P f cargs w fun e w' => ∃ (cv : Value) (r : AV) (h' : Heap) (n' : Nat) (μ' κ' : Nat → Nat), e = .returned cv ∧ R r h' n' ∧ HeapOK Γ E w' μ' κ' h' n' ∧
      From E (ctx E w μ κ h n) (ctx E w' μ' κ' h' n') ∧ RelV (ctx E w' μ' κ' h' n') r cv

/-- A call that leaves nothing of its own behind it. -/
def APure (P : Program) (Γ : Glob) (f : FuncId) (args : List AV) (r : AV) : Prop := ∀ n, ACalls P Γ f args (fun _ => none) n fun r' h' _ => r' = r ∧ h' = fun _ => none

/-! ### less is told -/
/-- A cell told anew: a slice of a live block that is given up is read from now on. -/
inductive CelAs (h h' : Heap) : Cel → Cel → Prop
  | refl {x : Cel} : CelAs h h' x x
  | own {b sz off len m : Nat} {es : List (List Cel)} (hb : slContent h sz (.own b sz off len m) = some es) (hn : h' b = none) : CelAs h h' (.own b sz off len m) (.ro false sz es)
  | ref {b sz i j : Nat} {es : List (List Cel)} {e : List Cel} (hb : h b = some (.cells sz es)) (he : es[i]? = some e) (hn : h' b = none) : CelAs h h' (.ref b sz i j) (.rop (e.drop j))

inductive AVAs (h h' : Heap) : AV → AV → Prop
  | refl {x : AV} : AVAs h h' x x
  | c {x y : Cel} (r : CelAs h h' x y) : AVAs h h' (.c x) (.c y)
  | agg {xs ys : List Cel} (hl : xs.length = ys.length) (r : ∀ (i : Nat) (x y : Cel), xs[i]? = some x → ys[i]? = some y → CelAs h h' x y) : AVAs h h' (.agg xs) (.agg ys)
  | tup {xs ys : List AV} (hl : xs.length = ys.length) (r : ∀ (i : Nat) (x y : AV), xs[i]? = some x → ys[i]? = some y → AVAs h h' x y) : AVAs h h' (.tup xs) (.tup ys)

structure Weak (s s' : St) : Prop where
  n : s'.n = s.n
  h : ∀ b x, s'.h b = some x → s.h b = some x
  env : ∀ d v, s'.env d = some v → ∃ u, s.env d = some u ∧ AVAs s.h s'.h u v

theorem Weak.refl (s : St) : Weak s s := ⟨rfl, fun _ _ h => h, fun _ v hv => ⟨v, hv, .refl⟩⟩

/-- What holds of a state. -/
def HR (Γ : Glob) (E : Nat → Prop) (K0 : Ctx) (N : Nat) (s : St) (a : Act) (w : World) : Prop :=
  ∃ μ κ : Nat → Nat, HeapOK Γ E w μ κ s.h s.n ∧ EnvOK (ctx E w μ κ s.h s.n) s.env a ∧ From E K0 (ctx E w μ κ s.h s.n) ∧ a.defers = [] ∧ N ≤ a.tmps.size

section
variable {Γ : Glob} {E : Nat → Prop} {w : World} {μ κ : Nat → Nat} {h h' : Heap} {n : Nat}

theorem CelAs.ok (H : HeapOK Γ E w μ κ h n) (hl : ∀ b x, h' b = some x → h b = some x) {x y : Cel} (c : CelAs h h' x y) {v : Value} (r : RelC (ctx E w μ κ h n) x v) : RelC (ctx E w μ κ h' n) y v := by
  have L := (H.less hl).2.le
  have stable : ∀ b x, h b = some x → h' b = none → stab E w μ h' (μ b) := by
    intro b x hb hn
    refine ⟨(H.blk b x hb).lt, H.res b x hb, fun b' y hb' e => ?_⟩
    have := H.inj b' b y x (hl b' y hb') hb e
    subst this
    rw [hn] at hb'
    cases hb'
  cases c with
  | refl => exact r.mono L
  | @own b sz off len m es hb hn =>
    obtain ⟨o, cap, hbn, rfl, hlm, hmc, ho, hk⟩ := relC_own r
    obtain ⟨A, cp, g, e1, e2, e3, e4⟩ := slContent_ok H hb r
    cases e1
    have hsome : ∃ z, h b = some z := by
      simp only [slContent] at hb
      split at hb
      · exact ⟨_, by assumption⟩
      · cases hb
    obtain ⟨z, hz⟩ := hsome
    refine .ro g rfl e2 (fun q => by cases q) (fun i e hi => (e4 i e hi).1) (fun ad had _ _ => ?_) (fun i e hi j x hj => ?_) (fun i e hi j x hj => ?_)
    · cases had
      exact stable b z hz hn
    · exact ((e4 i e hi).2 j x hj).1
    · exact ((e4 i e hi).2 j x hj).2.mono L
  | @ref b sz i j es e hb he hn =>
    obtain ⟨hbn, rfl⟩ := relC_ref r
    obtain ⟨C, tt, fr, hC, hfr, hcl, hsz, hes⟩ := H.blk b _ hb
    have hCw : w.heap[μ b]? = some (.cells C tt fr) := hC
    have hget : ∀ (k : Nat) (x : Cel), (e.drop j)[k]? = some x → ∃ v, C[i * sz + j + k]? = some v ∧ RelC (ctx E w μ κ h n) x v := by
      intro k x hk
      rw [List.getElem?_drop] at hk
      obtain ⟨v, hv, hr⟩ := (hes i e he).2 (j + k) x hk
      exact ⟨v, by rw [Nat.add_assoc]; exact hv, hr⟩
    refine .rop (fun k => C.getD (i * sz + j + k) undef) (fun _ => stable b _ hb hn) (fun k x hk => ?_) (fun k x hk => ?_)
    · obtain ⟨v, hv, _⟩ := hget k x hk
      have : ((⟨μ b, i * sz + j, none⟩ : Addr).add k) = ⟨μ b, i * sz + j + k, none⟩ := by unfold Addr.add; split <;> simp_all
      show w.cell? ((⟨μ b, i * sz + j, none⟩ : Addr).add k) = _
      rw [this, block_cell hCw, hv, getD_of hv]
    · obtain ⟨v, hv, hr⟩ := hget k x hk
      rw [getD_of hv]
      exact hr.mono L

theorem AVAs.ok (H : HeapOK Γ E w μ κ h n) (hl : ∀ b x, h' b = some x → h b = some x) {x y : AV} (c : AVAs h h' x y) {v : Value} (r : RelV (ctx E w μ κ h n) x v) : RelV (ctx E w μ κ h' n) y v := by
  induction c generalizing v with
  | refl => exact r.mono (H.less hl).2.le
  | c q => exact .c (q.ok H hl (relV_c r))
  | tup hlen q ih =>
    obtain ⟨vs, rfl, h1, h2⟩ := relV_tup r
    refine .tup (by rw [← hlen, h1]) (fun i y hy => ?_)
    have hi := (List.getElem?_eq_some_iff.1 hy).1
    have hx := List.getElem?_eq_getElem (by rw [hlen]; exact hi)
    exact ih i _ y hx hy (h2 i _ hx)
  | agg hlen q =>
    obtain ⟨vs, rfl, h1, h2⟩ := relV_agg r
    refine .agg (by rw [← hlen, h1]) (fun i y hy => ?_)
    have hi := (List.getElem?_eq_some_iff.1 hy).1
    have hx := List.getElem?_eq_getElem (by rw [hlen]; exact hi)
    exact (q i _ y hx hy).ok H hl (h2 i _ hx)

theorem weak_ok {K0 : Ctx} {s s' : St} {a : Act} (H : HeapOK Γ E w μ κ s.h s.n) (HE : EnvOK (ctx E w μ κ s.h s.n) s.env a) (F : From E K0 (ctx E w μ κ s.h s.n)) (k : Weak s s') :
    HeapOK Γ E w μ κ s'.h s'.n ∧ EnvOK (ctx E w μ κ s'.h s'.n) s'.env a ∧ From E K0 (ctx E w μ κ s'.h s'.n) ∧ Ctx.Le (ctx E w μ κ s.h s.n) (ctx E w μ κ s'.h s'.n) := by
  obtain ⟨env, h, n⟩ := s
  obtain ⟨env', h', n'⟩ := s'
  obtain ⟨k1, k2, k3⟩ := k
  simp only at k1 k2 k3
  subst k1
  obtain ⟨H1, F1⟩ := H.less k2
  refine ⟨H1, fun d v hv => ?_, F.trans F1, F1.le⟩
  obtain ⟨u, hu, q⟩ := k3 d v hv
  exact q.ok H k2 (HE d u hu)

theorem HR.weak {K0 : Ctx} {N : Nat} {s s' : St} {a : Act} (hr : HR Γ E K0 N s a w) (k : Weak s s') : HR Γ E K0 N s' a w := by
  obtain ⟨μ, κ, H, HE, F, hd, hN⟩ := hr
  obtain ⟨env, h, n⟩ := s
  obtain ⟨env', h', n'⟩ := s'
  obtain ⟨k1, k2, k3⟩ := k
  simp only at k1 k2 k3
  subst k1
  obtain ⟨H1, F1⟩ := H.less k2
  refine ⟨μ, κ, H1, fun d v hv => ?_, F.trans F1, hd, hN⟩
  obtain ⟨u, hu, q⟩ := k3 d v hv
  exact q.ok H k2 (HE d u hu)

/-! ### a call: what it does not use is kept -/
/-- The heap behind a call that used 'h1' of it. -/
def merge (n : Nat) (h h1 h1' : Heap) : Heap := fun b => match h1' b with
  | some x => some x
  | none => if b < n ∧ (h1 b).isNone then h b else none

theorem stab_split (H : HeapOK Γ E w μ κ h n) {h1 : Heap} (hl : ∀ b x, h1 b = some x → h b = some x) :
    stab (fun k => E k ∨ ∃ b x, h b = some x ∧ h1 b = none ∧ μ b = k) w μ h1 = stab E w μ h := by
  funext k
  apply propext
  constructor
  · rintro ⟨a1, a2, a3⟩
    refine ⟨a1, fun e => a2 (.inl e), fun b x hb e => ?_⟩
    cases h2 : h1 b with
    | none => exact a2 (.inr ⟨b, x, hb, h2, e⟩)
    | some y => exact a3 b y h2 e
  · rintro ⟨a1, a2, a3⟩
    refine ⟨a1, ?_, fun b x hb e => a3 b x (hl b x hb) e⟩
    rintro (e | ⟨b, x, hb, _, e⟩)
    · exact a2 e
    · exact a3 b x hb e

theorem call_split (H : HeapOK Γ E w μ κ h n) {h1 : Heap} (hl : ∀ b x, h1 b = some x → h b = some x) :
    HeapOK Γ (fun k => E k ∨ ∃ b x, h b = some x ∧ h1 b = none ∧ μ b = k) w μ κ h1 n ∧ ctx (fun k => E k ∨ ∃ b x, h b = some x ∧ h1 b = none ∧ μ b = k) w μ κ h1 n = ctx E w μ κ h n := by
  have e : ctx (fun k => E k ∨ ∃ b x, h b = some x ∧ h1 b = none ∧ μ b = k) w μ κ h1 n = ctx E w μ κ h n := by unfold ctx; rw [stab_split H hl]
  refine ⟨⟨?_, fun b x hb => H.bound b x (hl b x hb), fun b b' x x' hb hb' => H.inj b b' x x' (hl b x hb) (hl b' x' hb'), ?_, fun b x hb => by rw [e]; exact H.blk b x (hl b x hb), fun g => by rw [e]; exact H.glob g⟩, e⟩
  · rintro k (hk | ⟨b, x, hb, _, rfl⟩)
    · exact H.lt k hk
    · exact (H.blk b x hb).lt
  · rintro b x hb (hk | ⟨b', x', hb', hn, e⟩)
    · exact H.res b x (hl b x hb) hk
    · have := H.inj b' b x' x hb' (hl b x hb) e
      subst this
      rw [hn] at hb
      cases hb

theorem call_merge (H : HeapOK Γ E w μ κ h n) {h1 h1' : Heap} {n' : Nat} {w' : World} {μ' κ' : Nat → Nat} (hl : ∀ b x, h1 b = some x → h b = some x)
    (H' : HeapOK Γ (fun k => E k ∨ ∃ b x, h b = some x ∧ h1 b = none ∧ μ b = k) w' μ' κ' h1' n')
    (F : From (fun k => E k ∨ ∃ b x, h b = some x ∧ h1 b = none ∧ μ b = k) (ctx E w μ κ h n) (ctx (fun k => E k ∨ ∃ b x, h b = some x ∧ h1 b = none ∧ μ b = k) w' μ' κ' h1' n')) :
    HeapOK Γ E w' μ' κ' (merge n h h1 h1') n' ∧ From E (ctx E w μ κ h n) (ctx E w' μ' κ' (merge n h h1 h1') n') ∧
    Ctx.Le (ctx (fun k => E k ∨ ∃ b x, h b = some x ∧ h1 b = none ∧ μ b = k) w' μ' κ' h1' n') (ctx E w' μ' κ' (merge n h h1 h1') n') := by
  have hm : ∀ b x, merge n h h1 h1' b = some x → h1' b = some x ∨ (h b = some x ∧ h1 b = none ∧ μ' b = μ b ∧ b < n) := by
    intro b x hb
    unfold merge at hb
    split at hb
    · rename_i y hy
      cases hb
      exact .inl hy
    · split at hb
      · rename_i hc
        refine .inr ⟨hb, ?_, F.le.μ b hc.1, hc.1⟩
        cases h2 : h1 b with
        | none => rfl
        | some y => rw [h2] at hc; simp at hc
      · cases hb
  have L : Ctx.Le (ctx (fun k => E k ∨ ∃ b x, h b = some x ∧ h1 b = none ∧ μ b = k) w' μ' κ' h1' n') (ctx E w' μ' κ' (merge n h h1 h1') n') := by
    refine ⟨Nat.le_refl _, fun _ _ => rfl, fun _ _ => rfl, fun k hk => ⟨hk.1, fun e => hk.2.1 (.inl e), fun b x hb e => ?_⟩, fun _ _ => rfl⟩
    rcases hm b x hb with h2 | ⟨h2, h3, h4, _⟩
    · exact hk.2.2 b x h2 e
    · exact hk.2.1 (.inr ⟨b, x, h2, h3, by rw [← h4]; exact e⟩)
  have F' : From E (ctx E w μ κ h n) (ctx E w' μ' κ' (merge n h h1 h1') n') := ⟨F.le.trans L, F.size, F.os, F.tape, F.output, fun k hk hlt => F.res k (.inl hk) hlt⟩
  refine ⟨⟨fun k hk => H'.lt k (.inl hk), ?_, ?_, ?_, ?_, fun g => (H.glob g).mono F'.le⟩, F', L⟩
  · intro b x hb
    rcases hm b x hb with h2 | ⟨h2, h3, h4, h5⟩
    · exact H'.bound b x h2
    · exact Nat.lt_of_lt_of_le h5 F.le.n
  · intro b b' x x' hb hb' e
    rcases hm b x hb with h2 | ⟨h2, h3, h4, h5⟩ <;> rcases hm b' x' hb' with k2 | ⟨k2, k3, k4, k5⟩
    · exact H'.inj b b' x x' h2 k2 e
    · exact absurd (Or.inr ⟨b', x', k2, k3, by rw [e, k4]⟩) (H'.res b x h2)
    · exact absurd (Or.inr ⟨b, x, h2, h3, by rw [← e, h4]⟩) (H'.res b' x' k2)
    · rw [h4, k4] at e
      exact H.inj b b' x x' h2 k2 e
  · intro b x hb
    rcases hm b x hb with h2 | ⟨h2, h3, h4, h5⟩
    · exact fun e => H'.res b x h2 (.inl e)
    · rw [h4]; exact H.res b x h2
  · intro b x hb
    rcases hm b x hb with h2 | ⟨h2, h3, h4, h5⟩
    · exact (H'.blk b x h2).mono L (H'.bound b x h2) rfl
    · refine (H.blk b x h2).mono F'.le (H.bound b x h2) ?_
      exact F.res _ (.inr ⟨b, x, h2, h3, rfl⟩) (H.blk b x h2).lt
end

/-- What goes on, kept from the simplifier's hands. -/
class Pr where p : Prop
class Kon where go : AV → Prop
class Kont where go : AV → St → Prop

/-- A call by contract, over the part 'h1' of the heap; 'keep': no block that was there changes. -/
def CallTo (P : Program) (Γ : Glob) (f : FuncId) (first : List AV) (xs : List Arg) (captured : List AV) (keep : Bool) [K : Kont] (s : St) : Prop :=
  ∃ s' : St, Weak s s' ∧ ∃ vs, xs.mapM (·.get Γ s'.env) = some vs ∧ ∃ (h1 : Heap) (R : AV → Heap → Nat → Prop),
    (∀ b x, h1 b = some x → s'.h b = some x) ∧ (keep = true → h1 = fun _ => none) ∧ ACalls P Γ f (first ++ vs ++ captured) h1 s'.n R ∧
    ∀ r h1' n', s'.n ≤ n' → R r h1' n' → ∃ h2 : Heap, ((∀ b x, s'.h b = some x → b < s'.n) → ∀ b x, h2 b = some x → merge s'.n s'.h h1 h1' b = some x) ∧ K.go r ⟨s'.env, h2, n'⟩

theorem CallTo.pure {P : Program} {Γ : Glob} {f : FuncId} {first captured vs : List AV} {xs : List Arg} {keep : Bool} {K : Kont} {s : St} {r : AV} (hv : xs.mapM (·.get Γ s.env) = some vs)
    (hc : APure P Γ f (first ++ vs ++ captured) r) (hk : ∀ n', s.n ≤ n' → K.go r ⟨s.env, s.h, n'⟩) : CallTo P Γ f first xs captured keep s := by
  refine ⟨s, .refl s, vs, hv, fun _ => none, _, fun b x hb => (by cases hb), fun _ => rfl, hc s.n, ?_⟩
  rintro r' h' n' hn ⟨rfl, rfl⟩
  refine ⟨s.h, fun hb b x hx => ?_, hk n' hn⟩
  simp [merge, hb b x hx, hx]

def AOp.keeps : AOp → Bool
  | .box _ | .bslice .. | .mksl .. | .toBytes _ | .rangeS _ => true
  | _ => false

def evAct (P : Program) (Γ : Glob) (keep : Bool) (o : AOper) (K : St → Prop) (s : St) : Prop :=
  match o.op with
  | .call f xs => @CallTo P Γ f [] xs [] keep ⟨fun r s' => K (s'.put o.dst (some r))⟩ s
  | .callv g xs => match g.get Γ s.env with
    | some (.c (.fn (.func f) first captured)) => okFn P f = true ∧ @CallTo P Γ f (first.map .c) xs (captured.map .c) keep ⟨fun r s' => K (s'.put o.dst (some r))⟩ s
    | _ => False
  | op => match step1 Γ s op with
    | some v => K (s.put o.dst (some v))
    | none => match step2 Γ s op with
      | some (v, h', n') => (keep = true → op.keeps = true) ∧ K ((⟨s.env, h', n'⟩ : St).put o.dst v)
      | none => False

/-- A choice, left alone until it is known. -/
def GuardTo (b want : Bool) [X : Pr] [Y : Pr] : Prop := (b = want → X.p) ∧ (b ≠ want → Y.p)
def CondTo (b : Bool) [X : Pr] [Y : Pr] : Prop := (b = true → X.p) ∧ (b = false → Y.p)
theorem GuardTo.tt (X Y : Pr) : @GuardTo true true X Y = X.p := by simp [GuardTo]
theorem GuardTo.tf (X Y : Pr) : @GuardTo true false X Y = Y.p := by simp [GuardTo]
theorem GuardTo.ft (X Y : Pr) : @GuardTo false true X Y = Y.p := by simp [GuardTo]
theorem GuardTo.ff (X Y : Pr) : @GuardTo false false X Y = X.p := by simp [GuardTo]
theorem CondTo.t (X Y : Pr) : @CondTo true X Y = X.p := by simp [CondTo]
theorem CondTo.f (X Y : Pr) : @CondTo false X Y = Y.p := by simp [CondTo]
theorem GuardTo.byt {b : Bool} {X Y : Pr} (h1 : b = true → X.p) (h0 : b = false → Y.p) : @GuardTo b true X Y := by
  cases b
  · rw [GuardTo.ft]; exact h0 rfl
  · rw [GuardTo.tt]; exact h1 rfl
theorem GuardTo.byf {b : Bool} {X Y : Pr} (h1 : b = true → Y.p) (h0 : b = false → X.p) : @GuardTo b false X Y := by
  cases b
  · rw [GuardTo.ff]; exact h0 rfl
  · rw [GuardTo.tf]; exact h1 rfl
theorem CondTo.by {b : Bool} {X Y : Pr} (h1 : b = true → X.p) (h0 : b = false → Y.p) : @CondTo b X Y := ⟨h1, h0⟩

def evOp (P : Program) (Γ : Glob) (keep : Bool) (o : AOper) (K : St → Prop) (s : St) : Prop :=
  match o.guard with
  | none => evAct P Γ keep o K s
  | some (d, want) => match s.env d with
    | some (.c (.val (.bool b))) => @GuardTo b want ⟨evAct P Γ keep o K s⟩ ⟨K (s.put o.dst (some (.tup [])))⟩
    | some (.tup []) => K (s.put o.dst (some (.tup [])))
    | _ => False

def evOps (P : Program) (Γ : Glob) (K : St → Prop) : List AOper → St → Prop
  | [], s => K s
  | o :: r, s => evOp P Γ false o (evOps P Γ K r) s

/-- A quiet operation's value. -/
def evLook (Γ : Glob) (o : AOper) (s : St) : Option AV :=
  match o.guard with
  | none => step1 Γ s o.op
  | some (d, want) => match s.env d with
    | some (.c (.val (.bool b))) => if b = want then step1 Γ s o.op else some (.tup [])
    | some (.tup []) => some (.tup [])
    | _ => none

def evLookTo (Γ : Glob) (o : AOper) (s : St) [K : Kon] : Prop :=
  match o.guard with
  | none => match step1 Γ s o.op with
    | some v => K.go v
    | none => False
  | some (d, want) => match s.env d with
    | some (.c (.val (.bool b))) => @GuardTo b want ⟨match step1 Γ s o.op with
      | some v => K.go v
      | none => False⟩ ⟨K.go (.tup [])⟩
    | some (.tup []) => K.go (.tup [])
    | _ => False

theorem evLookTo_ok {Γ : Glob} {o : AOper} {s : St} {K : Kon} (h : evLookTo Γ o s) : ∃ v, evLook Γ o s = some v ∧ K.go v := by
  unfold evLookTo at h
  unfold evLook
  have one : ∀ x : Option AV, (match x with | some v => K.go v | none => False) → ∃ v, x = some v ∧ K.go v := by
    intro x hx
    cases x with
    | none => exact hx.elim
    | some v => exact ⟨v, rfl, hx⟩
  cases hg : o.guard with
  | none =>
    simp only [hg] at h
    exact one _ h
  | some p =>
    obtain ⟨d, want⟩ := p
    simp only [hg] at h
    show ∃ v, (match s.env d with
      | some (.c (.val (.bool b))) => if b = want then step1 Γ s o.op else some (.tup [])
      | some (.tup []) => some (.tup [])
      | _ => none) = some v ∧ K.go v
    split at h
    · rename_i b hb
      by_cases hbw : b = want
      · simp only [hb, if_pos hbw]
        exact one _ (h.1 hbw)
      · simp only [hb, if_neg hbw]
        exact ⟨_, rfl, h.2 hbw⟩
    · exact ⟨.tup [], by simp_all, h⟩
    · exact h.elim

def evDrawn (P : Program) (Γ : Glob) (K : St → Prop) : List (AOper × Nat × Nat) → St → Prop
  | [], s => K s
  | (o, 0, _) :: r, s => @evLookTo Γ o s ⟨fun v => evDrawn P Γ K r (s.put o.dst (some v))⟩
  | (o, k + 1, _) :: r, s => evOp P Γ (k == 0) o (evDrawn P Γ K r) s

def AThen (next : St → Prop) (Q : AExit → St → Prop) : AExit → St → Prop
  | .normal, s => next s
  | e, s => Q e s

def ABlock (id : Nat) (Q : AExit → St → Prop) : AExit → St → Prop
  | .exit id', s => if id' = id then Q .normal s else Q (.exit id') s
  | e, s => Q e s

end Go.Proofs.YtgfcmhomndofaaaAv
