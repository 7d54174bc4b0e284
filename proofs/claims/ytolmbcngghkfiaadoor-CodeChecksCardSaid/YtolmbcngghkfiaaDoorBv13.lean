/- The calculus: states, what is kept, calls of a function by its contract, and the code's conditions. It proves nothing of any program. -/
import Derived.Test.YtolmbcngghkfiaaDoorBv12
import Derived.OrdersHeld
namespace Go.Proofs.YtolmbcngghkfiaaDoorBv
open Go
set_option linter.unusedVariables false
set_option linter.unusedSimpArgs false

def St.put (s : St) (d : Option Nat) (v : Option AV) : St := match d with
  | some d => ⟨upd s.env d v, s.h, s.n⟩
  | none => s

inductive AExit where
  | normal
  | exit (id : Nat)
  | ret

/-- What a call of 'f' does, from these arguments, over this heap: it returns, and 'R' holds of the result and of the heap that is told. -/
def ACalls (P : Program) (Γ : Glob) (f : FuncId) (args : List AV) (h : Heap) (n : Nat) (R : AV → Heap → Nat → Prop) : Prop :=
  ∀ (E : Nat → Prop) (w : World) (μ κ : Nat → Nat) (cargs : Array Value), HeapOK Γ E w μ κ h n → cargs.size = args.length →
    (∀ (i : Nat) (x : AV), args[i]? = some x → RelV (ctx E w μ κ h n) x (cargs.getD i undef)) →
    Calls P f cargs w fun e w' => ∃ (cv : Value) (r : AV) (h' : Heap) (n' : Nat) (μ' κ' : Nat → Nat), e = .returned cv ∧ R r h' n' ∧ HeapOK Γ E w' μ' κ' h' n' ∧
      From E (ctx E w μ κ h n) (ctx E w' μ' κ' h' n') ∧ RelV (ctx E w' μ' κ' h' n') r cv

/-- A call that leaves nothing of its own behind it. -/
def APure (P : Program) (Γ : Glob) (f : FuncId) (args : List AV) (r : AV) : Prop := ∀ n, ACalls P Γ f args (fun _ => none) n fun r' h' _ => r' = r ∧ h' = fun _ => none

/-! ### less is told, and blocks are named anew -/
/-- Nothing that is only read in it. -/
def Cel.closed : Cel → Bool
  | .val _ | .str _ | .ref .. | .own .. | .emp _ | .mp _ | .opq => true
  | .ro _ _ [] => true
  | .fn _ [] [] => true
  | _ => false

theorem closed_to {K K' : Ctx} {x : Cel} {v : Value} (h : RelC K x v) (hf : x.closed = true) (hn : K'.n = K.n) (hμ : K'.μ = K.μ) (hκ : K'.κ = K.κ) : RelC K' x v := by
  cases h with
  | val h => exact .val h
  | str h => exact .str h
  | ref h => rw [← hμ]; exact .ref (by rw [hn]; exact h)
  | own h h1 h2 h3 h4 => rw [← hμ]; exact .own (by rw [hn]; exact h) h1 h2 h3 (by rw [hκ]; exact h4)
  | mp h => rw [← hμ]; exact .mp (by rw [hn]; exact h)
  | opq => exact .opq
  | @ro _ nl sz c xs A f hn hc hz hl hs hcell hrel =>
    cases xs with
    | cons => cases hf
    | nil => exact .ro f hn hc hz (fun i e h => by simp at h) (fun ad _ h => absurd rfl h) (fun i e h => by simp at h) (fun i e h => by simp at h)
  | rop => cases hf
  | emp => exact .emp
  | @fn _ f a b vs us h1 h2 r1 r2 =>
    cases a with
    | cons => cases hf
    | nil => cases b with
      | cons => cases hf
      | nil => exact .fn h1 h2 (fun i x h => by simp at h) (fun i x h => by simp at h)

/-- A cell told anew: 'σ' says what a block was called; a slice of a live block that is given up is read from now on. -/
inductive CelAs (σ : Nat → Nat) (h h' : Heap) (n' : Nat) : Cel → Cel → Prop
  | same {x : Cel} (hf : x.free = true) : CelAs σ h h' n' x x
  | ref {b b' sz i j : Nat} (hb : b' = σ b) (hn : b < n') : CelAs σ h h' n' (.ref b' sz i j) (.ref b sz i j)
  | own {b b' sz off len m m' : Nat} (hb : b' = σ b) (hn : b < n') (h1 : len ≤ m') (h2 : m' ≤ m) : CelAs σ h h' n' (.own b' sz off len m) (.own b sz off len m')
  | ownRo {b sz off len m : Nat} {es : List (List Cel)} (hb : slContent h sz (.own b sz off len m) = some es) (hn : ∀ b' x, h' b' = some x → σ b' ≠ b) (hf : ∀ e, e ∈ es → freeL e = true) :
      CelAs σ h h' n' (.own b sz off len m) (.ro false sz es)
  | refRo {b sz i j : Nat} {es : List (List Cel)} {e cs : List Cel} (hb : h b = some (.cells sz es)) (he : es[i]? = some e) (hn : ∀ b' x, h' b' = some x → σ b' ≠ b) (hl : cs.length = (e.drop j).length)
      (r : ∀ (k : Nat) (x y : Cel), (e.drop j)[k]? = some x → cs[k]? = some y → CelAs σ h h' n' x y) (hf : freeL cs = true) : CelAs σ h h' n' (.ref b sz i j) (.rop cs)
  | nil {sz : Nat} {xs : List (List Cel)} {nl : Bool} : CelAs σ h h' n' (.ro nl sz xs) (.ro false sz xs)
  | emp {sz : Nat} : CelAs σ h h' n' (.emp sz) (.ro false sz [])
  | fn {f : Fn} {a b a' b' : List Cel} (ha : a'.length = a.length) (hb : b'.length = b.length) (ra : ∀ (i : Nat) (x y : Cel), a[i]? = some x → a'[i]? = some y → CelAs σ h h' n' x y)
      (rb : ∀ (i : Nat) (x y : Cel), b[i]? = some x → b'[i]? = some y → CelAs σ h h' n' x y) : CelAs σ h h' n' (.fn f a b) (.fn f a' b')
  | mp {b b' : Nat} (hb : b' = σ b) (hn : b < n') : CelAs σ h h' n' (.mp b') (.mp b)

inductive AVAs (σ : Nat → Nat) (h h' : Heap) (n' : Nat) : AV → AV → Prop
  | c {x y : Cel} (r : CelAs σ h h' n' x y) : AVAs σ h h' n' (.c x) (.c y)
  | agg {xs ys : List Cel} (hl : xs.length = ys.length) (r : ∀ (i : Nat) (x y : Cel), xs[i]? = some x → ys[i]? = some y → CelAs σ h h' n' x y) : AVAs σ h h' n' (.agg xs) (.agg ys)
  | tup {xs ys : List AV} (hl : xs.length = ys.length) (r : ∀ (i : Nat) (x y : AV), xs[i]? = some x → ys[i]? = some y → AVAs σ h h' n' x y) : AVAs σ h h' n' (.tup xs) (.tup ys)

inductive BlkAs (σ : Nat → Nat) (h h' : Heap) (n' : Nat) : Blk → Blk → Prop
  | cells {sz : Nat} {es es' : List (List Cel)} (hl : es'.length ≤ es.length) (r : ∀ (i : Nat) (e' : List Cel), es'[i]? = some e' → ∃ e, es[i]? = some e ∧ e.length = e'.length ∧
      ∀ (j : Nat) (x y : Cel), e[j]? = some x → e'[j]? = some y → CelAs σ h h' n' x y) : BlkAs σ h h' n' (.cells sz es) (.cells sz es')
  | iter {s : ByteArray} {p : Nat} : BlkAs σ h h' n' (.iter s p) (.iter s p)
  | bld {T : TypeId} {z : Bool} {c c' len : Nat} (hc : c = σ c') (hn : c' < n') : BlkAs σ h h' n' (.bld T z c len) (.bld T z c' len)
  | bldN {T : TypeId} {c c' len len' : Nat} (hn : c' < n') : BlkAs σ h h' n' (.bld T true c len) (.bld T true c' len')
  | buf {e : TypeId} {l : List UInt8} : BlkAs σ h h' n' (.buf e l) (.buf e l)
  | map {m : MK} {es : List (Cel × AV)} : BlkAs σ h h' n' (.mapb m es) (.mapb m es)
  | mit {m : MK} {la la' : Option (Cel × AV)} {es : List (Cel × AV)} (hla : la' = la ∨ la' = none) : BlkAs σ h h' n' (.mit m la es) (.mit m la' es)

structure WeakS (k0 : Nat) (σ : Nat → Nat) (s s' : St) : Prop where
  fix : ∀ b, b < k0 → σ b = b
  n : k0 ≤ s'.n
  h : ∀ b x', s'.h b = some x' → b < s'.n ∧ ∃ x, s.h (σ b) = some x ∧ BlkAs σ s.h s'.h s'.n x x'
  inj : ∀ b b' x x', s'.h b = some x → s'.h b' = some x' → σ b = σ b' → b = b'
  env : ∀ d v', s'.env d = some v' → ∃ v, s.env d = some v ∧ AVAs σ s.h s'.h s'.n v v'

/-- Less is told, and all names stay. -/
structure WeakI (s s' : St) : Prop where
  n : s'.n = s.n
  h : ∀ b x', s'.h b = some x' → ∃ x, s.h b = some x ∧ (x' = x ∨ BlkAs id s.h s'.h s.n x x')
  env : ∀ d v', s'.env d = some v' → s.env d = some v' ∨ ∃ v, s.env d = some v ∧ AVAs id s.h s'.h s.n v v'

inductive Weak (k0 : Nat) : St → St → Prop
  | refl (s : St) : Weak k0 s s
  | same {s s' s'' : St} (h : WeakI s s') (k : Weak k0 s' s'') : Weak k0 s s''
  | step {s s' s'' : St} (σ : Nat → Nat) (h : WeakS k0 σ s s') (k : Weak k0 s' s'') : Weak k0 s s''

theorem Weak.one {k0 : Nat} {s s' : St} (σ : Nat → Nat) (h : WeakS k0 σ s s') : Weak k0 s s' := .step σ h (.refl _)
theorem Weak.trans {k0 : Nat} {a b c : St} (h : Weak k0 a b) (k : Weak k0 b c) : Weak k0 a c := by
  induction h with
  | refl => exact k
  | same h _ ih => exact .same h (ih k)
  | step σ h _ ih => exact .step σ h (ih k)

/-- What holds of a state. -/
def HR (Γ : Glob) (E : Nat → Prop) (K0 : Ctx) (N : Nat) (s : St) (a : Act) (w : World) : Prop :=
  ∃ μ κ : Nat → Nat, HeapOK Γ E w μ κ s.h s.n ∧ EnvOK (ctx E w μ κ s.h s.n) s.env a ∧ From E K0 (ctx E w μ κ s.h s.n) ∧ a.defers = K0.ds ∧ N ≤ a.tmps.size

section
variable {Γ : Glob} {E : Nat → Prop} {w : World} {μ κ : Nat → Nat} {h h' : Heap} {n n' : Nat} {σ : Nat → Nat}

/-- what is told of the heap is less -/
def Sub' (σ : Nat → Nat) (h h' : Heap) : Prop := ∀ b x, h' b = some x → ∃ y, h (σ b) = some y

theorem stab_as (hl : Sub' σ h h') {k : Nat} (hk : stab E w μ h k) : stab E w (fun b => μ (σ b)) h' k :=
  ⟨hk.1, hk.2.1, fun b x hb => by obtain ⟨y, hy⟩ := hl b x hb; exact hk.2.2 (σ b) y hy⟩

theorem bare_as (hl : Sub' σ h h') : Ctx.Le (ctx E w μ κ h n).bare (ctx E w (fun b => μ (σ b)) (fun b => κ (σ b)) h' n') :=
  ⟨Nat.zero_le _, fun b h => absurd h (Nat.not_lt_zero _), fun b h => absurd h (Nat.not_lt_zero _), fun k hk => stab_as hl hk, fun _ _ => rfl⟩

theorem bare_bare (hl : Sub' σ h h') : Ctx.Le (ctx E w μ κ h n).bare (ctx E w (fun b => μ (σ b)) (fun b => κ (σ b)) h' n').bare :=
  ⟨Nat.zero_le _, fun b h => absurd h (Nat.not_lt_zero _), fun b h => absurd h (Nat.not_lt_zero _), fun k hk => stab_as hl hk, fun _ _ => rfl⟩

theorem CelAs.ok (H : HeapOK Γ E w μ κ h n) (hl : Sub' σ h h') {x y : Cel} (c : CelAs σ h h' n' x y) {v : Value} (r : RelC (ctx E w μ κ h n) x v) :
    RelC (ctx E w (fun b => μ (σ b)) (fun b => κ (σ b)) h' n') y v := by
  have stable : ∀ b x, h b = some x → (∀ b' x, h' b' = some x → σ b' ≠ b) → stab E w (fun b => μ (σ b)) h' (μ b) := by
    intro b x hb hn
    refine ⟨(H.blk b x hb).lt, H.res b x hb, fun b' y hb' e => ?_⟩
    obtain ⟨z, hz⟩ := hl b' y hb'
    exact hn b' y hb' (H.inj (σ b') b z x hz hb e)
  induction c generalizing v with
  | same hf => exact (free_bare r hf).mono (bare_as hl)
  | ref hb hn =>
    obtain ⟨_, rfl⟩ := relC_ref r
    subst hb
    exact .ref hn
  | mp hb hn =>
    cases r
    subst hb
    exact .mp hn
  | own hb hn h1 h2 =>
    obtain ⟨o, cap, hbn, rfl, hlm, hmc, ho, hk⟩ := relC_own r
    subst hb
    exact .own hn h1 (Nat.le_trans h2 hmc) ho hk
  | @ownRo b sz off len m es hb hn hf =>
    obtain ⟨o, cap, hbn, rfl, hlm, hmc, ho, hk⟩ := relC_own r
    obtain ⟨A, cp, g, e1, e2, e3, e4⟩ := slContent_ok H hb r
    cases e1
    have hsome : ∃ z, h b = some z := by
      simp only [slContent] at hb
      split at hb
      · exact ⟨_, by assumption⟩
      · cases hb
    obtain ⟨z, hz⟩ := hsome
    refine .ro g (fun q => by cases q) e2 (fun q => by cases q) (fun i e hi => (e4 i e hi).1) (fun ad had _ _ => ?_) (fun i e hi j x hj => ?_) (fun i e hi j x hj => ?_)
    · cases had
      exact stable b z hz hn
    · exact ((e4 i e hi).2 j x hj).1
    · exact (free_bare ((e4 i e hi).2 j x hj).2 (List.all_eq_true.1 (hf e (List.mem_of_getElem? hi)) x (List.mem_of_getElem? hj))).mono (bare_bare hl)
  | @refRo b sz i j es e cs hb he hn hl' q hf ih =>
    obtain ⟨hbn, rfl⟩ := relC_ref r
    obtain ⟨C, tt, fr, hC, hfr, hcl, hsz, hes⟩ := H.blk b _ hb
    have hCw : w.heap[μ b]? = some (.cells C tt fr) := hC
    have hget : ∀ (k : Nat) (y : Cel), cs[k]? = some y → ∃ v, C[i * sz + j + k]? = some v ∧ RelC (ctx E w (fun b => μ (σ b)) (fun b => κ (σ b)) h' n') y v ∧ y.free = true := by
      intro k y hk
      have hlt := (List.getElem?_eq_some_iff.1 hk).1
      have hx := List.getElem?_eq_getElem (l := e.drop j) (i := k) (by omega)
      have hx' := hx
      rw [List.getElem?_drop] at hx'
      obtain ⟨v, hv, hr⟩ := (hes i e he).2 (j + k) _ hx'
      exact ⟨v, by rw [Nat.add_assoc]; exact hv, ih k _ y hx hk hr, List.all_eq_true.1 hf y (List.mem_of_getElem? hk)⟩
    refine .rop (fun k => C.getD (i * sz + j + k) undef) (fun _ => stable b _ hb hn) (fun k x hk => ?_) (fun k x hk => ?_)
    · obtain ⟨v, hv, _⟩ := hget k x hk
      have : ((⟨μ b, i * sz + j, none⟩ : Addr).add k) = ⟨μ b, i * sz + j + k, none⟩ := by unfold Addr.add; split <;> simp_all
      show w.cell? ((⟨μ b, i * sz + j, none⟩ : Addr).add k) = _
      rw [this, block_cell hCw, hv, getD_of hv]
    · obtain ⟨v, hv, hr, hfx⟩ := hget k x hk
      rw [getD_of hv]
      exact free_bare hr hfx
  | nil =>
    have := (free_bare r rfl).mono (bare_as (n' := n') hl)
    cases this with
    | ro f hn hc hz hl hs hcell hrel => exact .ro f (fun q => by cases q) hc hz hl hs hcell hrel
  | emp =>
    cases r with
    | @emp _ _ A => exact .ro (A := A) (xs := []) (c := 0) (fun _ _ => undef) (fun q => by cases q) (Nat.le_refl _) (fun _ => rfl) (fun i e h => by simp at h) (fun ad _ h => absurd rfl h) (fun i e h => by simp at h) (fun i e h => by simp at h)
  | fn ha hb ra rb iha ihb =>
    obtain ⟨vs, us, rfl, h1, h2, q1, q2⟩ := relC_fn r
    refine .fn (by rw [ha]; exact h1) (by rw [hb]; exact h2) (fun i y hy => ?_) (fun i y hy => ?_)
    · have hi := (List.getElem?_eq_some_iff.1 hy).1
      have hx := List.getElem?_eq_getElem (by rw [← ha]; exact hi)
      exact iha i _ y hx hy (q1 i _ hx)
    · have hi := (List.getElem?_eq_some_iff.1 hy).1
      have hx := List.getElem?_eq_getElem (by rw [← hb]; exact hi)
      exact ihb i _ y hx hy (q2 i _ hx)

theorem AVAs.ok (H : HeapOK Γ E w μ κ h n) (hl : Sub' σ h h') {x y : AV} (c : AVAs σ h h' n' x y) {v : Value} (r : RelV (ctx E w μ κ h n) x v) :
    RelV (ctx E w (fun b => μ (σ b)) (fun b => κ (σ b)) h' n') y v := by
  induction c generalizing v with
  | c q => exact .c (q.ok H hl (relV_c r))
  | tup hlen q ih =>
    obtain ⟨vs, rfl, h1, h2⟩ := relV_tup r
    refine .tup (by rw [← hlen, h1]) (fun i y hy => ?_)
    have hi := (List.getElem?_eq_some_iff.1 hy).1
    have hx := List.getElem?_eq_getElem (by rw [hlen]; exact hi)
    exact ih i _ y hx hy (h2 i _ hx)
  | agg hlen q =>
    obtain ⟨vs, rfl, h1, h2⟩ := relV_agg r
    refine .agg (by rw [← hlen, h1]) (fun i y hy => ?_)
    have hi := (List.getElem?_eq_some_iff.1 hy).1
    have hx := List.getElem?_eq_getElem (by rw [hlen]; exact hi)
    exact (q i _ y hx hy).ok H hl (h2 i _ hx)

theorem BlkAs.ok (H : HeapOK Γ E w μ κ h n) (hl : Sub' σ h h') {x y : Blk} (c : BlkAs σ h h' n' x y) {b : Nat} (r : BlkRel (ctx E w μ κ h n) (σ b) x) :
    BlkRel (ctx E w (fun b => μ (σ b)) (fun b => κ (σ b)) h' n') b y := by
  cases c with
  | iter => exact r
  | bld hc hn =>
    obtain ⟨p, v, h0, h1, hc0, h2, h3⟩ := r
    subst hc
    exact ⟨p, v, h0, h1, hn, h2, h3⟩
  | bldN hn =>
    obtain ⟨p, v, h0, h1, hc0, h2, h3⟩ := r
    exact ⟨p, v, h0, h1, hn, h2, fun h => by cases h⟩
  | buf => exact r
  | map =>
    obtain ⟨A, c, h0, h1, h2⟩ := r
    refine ⟨A, c, h0, h1, fun i k v hi => ?_⟩
    obtain ⟨g0, e, g1, g2, g3⟩ := h2 i k v hi
    exact ⟨g0, e, g1, g2.mono (bare_bare hl), g3.mono (bare_bare hl)⟩
  | mit hq =>
    obtain ⟨r, A, c, seen, h0, h1, h2, hla, h3⟩ := r
    have L : Ctx.Le (ctx E w μ κ h n).bare (ctx E w (fun b => μ (σ b)) (fun b => κ (σ b)) h' n').bare := bare_bare hl
    refine ⟨r, A, c, seen, h0, ⟨L.S r h1.1, h1.2⟩, h2, fun k v hk => ?_, fun i k v hi => ?_⟩
    · rcases hq with rfl | rfl
      · obtain ⟨e, s0, g0, g1, g2, g3⟩ := hla k v hk
        exact ⟨e, s0, g0, g1, g2.mono (bare_bare hl), g3.mono (bare_bare hl)⟩
      · cases hk
    · obtain ⟨g0, e, g1, g2, g3⟩ := h3 i k v hi
      exact ⟨g0, e, g1, g2.mono (bare_bare hl), g3.mono (bare_bare hl)⟩
  | cells hlen q =>
    obtain ⟨C, t, fr, h0, h1, h2, h3, h4⟩ := r
    refine ⟨C, t, fr, h0, h1, Nat.le_trans hlen h2, h3, fun i e' he' => ?_⟩
    obtain ⟨e, he, hel, hq⟩ := q i e' he'
    refine ⟨hel ▸ (h4 i e he).1, fun j y hy => ?_⟩
    have hj := (List.getElem?_eq_some_iff.1 hy).1
    have hx := List.getElem?_eq_getElem (l := e) (i := j) (by rw [hel]; exact hj)
    obtain ⟨v, hv, hr⟩ := (h4 i e he).2 j _ hx
    exact ⟨v, hv, (hq j _ y hx hy).ok H hl hr⟩

theorem weakS_ok {K0 : Ctx} {k0 : Nat} {s s' : St} {a : Act} (hk : K0.n ≤ k0) (H : HeapOK Γ E w μ κ s.h s.n) (HE : EnvOK (ctx E w μ κ s.h s.n) s.env a) (F : From E K0 (ctx E w μ κ s.h s.n)) (k : WeakS k0 σ s s') :
    HeapOK Γ E w (fun b => μ (σ b)) (fun b => κ (σ b)) s'.h s'.n ∧ EnvOK (ctx E w (fun b => μ (σ b)) (fun b => κ (σ b)) s'.h s'.n) s'.env a ∧ From E K0 (ctx E w (fun b => μ (σ b)) (fun b => κ (σ b)) s'.h s'.n) := by
  have hl : Sub' σ s.h s'.h := fun b x hb => by obtain ⟨_, y, hy, _⟩ := k.h b x hb; exact ⟨y, hy⟩
  refine ⟨⟨H.lt, fun b x hb => (k.h b x hb).1, fun b b' x x' hb hb' e => ?_, fun b x hb => ?_, fun b x hb => ?_, fun g => ?_⟩, fun d v hv => ?_, ?_⟩
  · obtain ⟨y, hy⟩ := hl b x hb
    obtain ⟨y', hy'⟩ := hl b' x' hb'
    exact k.inj b b' x x' hb hb' (H.inj _ _ y y' hy hy' e)
  · obtain ⟨y, hy⟩ := hl b x hb
    exact H.res _ y hy
  · obtain ⟨_, y, hy, q⟩ := k.h b x hb
    exact q.ok H hl (H.blk _ y hy)
  · exact (show GlobOK (ctx E w μ κ s.h s.n).bare g (Γ g) from ⟨free_bare (H.glob g).1 rfl, (H.glob g).2⟩).mono (bare_as hl)
  · obtain ⟨u, hu, q⟩ := k.env d v hv
    exact q.ok H hl (HE d u hu)
  · exact ⟨⟨Nat.le_trans hk k.n, fun b hb => (congrArg μ (k.fix b (Nat.lt_of_lt_of_le hb hk))).trans (F.le.μ b hb), fun b hb => (congrArg κ (k.fix b (Nat.lt_of_lt_of_le hb hk))).trans (F.le.κ b hb),
      fun j hj => stab_as hl (F.le.S j hj), F.le.heap⟩, F.size, F.os, F.tape, F.output, F.res⟩

theorem weakI_ok {K0 : Ctx} {s s' : St} {a : Act} (H : HeapOK Γ E w μ κ s.h s.n) (HE : EnvOK (ctx E w μ κ s.h s.n) s.env a) (F : From E K0 (ctx E w μ κ s.h s.n)) (k : WeakI s s') :
    HeapOK Γ E w μ κ s'.h s'.n ∧ EnvOK (ctx E w μ κ s'.h s'.n) s'.env a ∧ From E K0 (ctx E w μ κ s'.h s'.n) := by
  obtain ⟨env, h, n⟩ := s
  obtain ⟨env', h', n'⟩ := s'
  obtain ⟨k1, k2, k3⟩ := k
  simp only at k1 k2 k3 H HE F ⊢
  subst k1
  have hl : Sub' id h h' := fun b x hb => by obtain ⟨y, hy, _⟩ := k2 b x hb; exact ⟨y, hy⟩
  have L : Ctx.Le (ctx E w μ κ h n') (ctx E w μ κ h' n') := ⟨Nat.le_refl _, fun _ _ => rfl, fun _ _ => rfl, fun k hk => stab_as hl hk, fun _ _ => rfl⟩
  refine ⟨⟨H.lt, fun b x hb => ?_, fun b b' x x' hb hb' e => ?_, fun b x hb => ?_, fun b x hb => ?_, fun g => (H.glob g).mono L⟩, fun d v hv => ?_, ⟨F.le.trans L, F.size, F.os, F.tape, F.output, F.res⟩⟩
  · obtain ⟨y, hy⟩ := hl b x hb
    exact H.bound _ y hy
  · obtain ⟨y, hy⟩ := hl b x hb
    obtain ⟨y', hy'⟩ := hl b' x' hb'
    exact H.inj _ _ y y' hy hy' e
  · obtain ⟨y, hy⟩ := hl b x hb
    exact H.res _ y hy
  · obtain ⟨y, hy, q⟩ := k2 b x hb
    rcases q with rfl | q
    · exact (H.blk b x hy).mono L (H.bound b x hy) rfl
    · exact q.ok H hl (H.blk b y hy)
  · rcases k3 d v hv with h1 | ⟨u, hu, q⟩
    · exact (HE d v h1).mono L
    · exact q.ok H hl (HE d u hu)

theorem HR.weak {K0 : Ctx} {k0 N : Nat} {s s' : St} {a : Act} (hk : K0.n ≤ k0) (hr : HR Γ E K0 N s a w) (k : Weak k0 s s') : HR Γ E K0 N s' a w := by
  induction k with
  | refl => exact hr
  | same h _ ih =>
    obtain ⟨μ, κ, H, HE, F, hd, hN⟩ := hr
    obtain ⟨H1, HE1, F1⟩ := weakI_ok H HE F h
    exact ih ⟨_, _, H1, HE1, F1, hd, hN⟩
  | step σ h _ ih =>
    obtain ⟨μ, κ, H, HE, F, hd, hN⟩ := hr
    obtain ⟨H1, HE1, F1⟩ := weakS_ok hk H HE F h
    exact ih ⟨_, _, H1, HE1, F1, hd, hN⟩
end

section
variable {Γ : Glob} {E : Nat → Prop} {w : World} {μ κ : Nat → Nat} {h h' : Heap} {n n' : Nat}
/-! ### a call: what it does not use is kept -/
/-- The heap behind a call that used 'h1' of it. -/
def merge (n : Nat) (h h1 h1' : Heap) : Heap := fun b => match h1' b with
  | some x => some x
  | none => if b < n ∧ (h1 b).isNone then h b else none

theorem stab_split (H : HeapOK Γ E w μ κ h n) {h1 : Heap} (hl : ∀ b x, h1 b = some x → h b = some x) :
    stab (fun k => E k ∨ ∃ b x, h b = some x ∧ h1 b = none ∧ μ b = k) w μ h1 = stab E w μ h := by
  funext k
  apply propext
  constructor
  · rintro ⟨a1, a2, a3⟩
    refine ⟨a1, fun e => a2 (.inl e), fun b x hb e => ?_⟩
    cases h2 : h1 b with
    | none => exact a2 (.inr ⟨b, x, hb, h2, e⟩)
    | some y => exact a3 b y h2 e
  · rintro ⟨a1, a2, a3⟩
    refine ⟨a1, ?_, fun b x hb e => a3 b x (hl b x hb) e⟩
    rintro (e | ⟨b, x, hb, _, e⟩)
    · exact a2 e
    · exact a3 b x hb e

theorem call_split (H : HeapOK Γ E w μ κ h n) {h1 : Heap} (hl : ∀ b x, h1 b = some x → h b = some x) :
    HeapOK Γ (fun k => E k ∨ ∃ b x, h b = some x ∧ h1 b = none ∧ μ b = k) w μ κ h1 n ∧ ctx (fun k => E k ∨ ∃ b x, h b = some x ∧ h1 b = none ∧ μ b = k) w μ κ h1 n = ctx E w μ κ h n := by
  have e : ctx (fun k => E k ∨ ∃ b x, h b = some x ∧ h1 b = none ∧ μ b = k) w μ κ h1 n = ctx E w μ κ h n := by unfold ctx; rw [stab_split H hl]
  refine ⟨⟨?_, fun b x hb => H.bound b x (hl b x hb), fun b b' x x' hb hb' => H.inj b b' x x' (hl b x hb) (hl b' x' hb'), ?_, fun b x hb => by rw [e]; exact H.blk b x (hl b x hb), fun g => by rw [e]; exact H.glob g⟩, e⟩
  · rintro k (hk | ⟨b, x, hb, _, rfl⟩)
    · exact H.lt k hk
    · exact (H.blk b x hb).lt
  · rintro b x hb (hk | ⟨b', x', hb', hn, e⟩)
    · exact H.res b x (hl b x hb) hk
    · have := H.inj b' b x' x hb' (hl b x hb) e
      subst this
      rw [hn] at hb
      cases hb

theorem call_merge (H : HeapOK Γ E w μ κ h n) {h1 h1' : Heap} {n' : Nat} {w' : World} {μ' κ' : Nat → Nat} (hl : ∀ b x, h1 b = some x → h b = some x)
    (H' : HeapOK Γ (fun k => E k ∨ ∃ b x, h b = some x ∧ h1 b = none ∧ μ b = k) w' μ' κ' h1' n')
    (F : From (fun k => E k ∨ ∃ b x, h b = some x ∧ h1 b = none ∧ μ b = k) (ctx E w μ κ h n) (ctx (fun k => E k ∨ ∃ b x, h b = some x ∧ h1 b = none ∧ μ b = k) w' μ' κ' h1' n')) :
    HeapOK Γ E w' μ' κ' (merge n h h1 h1') n' ∧ From E (ctx E w μ κ h n) (ctx E w' μ' κ' (merge n h h1 h1') n') ∧
    Ctx.Le (ctx (fun k => E k ∨ ∃ b x, h b = some x ∧ h1 b = none ∧ μ b = k) w' μ' κ' h1' n') (ctx E w' μ' κ' (merge n h h1 h1') n') := by
  have hm : ∀ b x, merge n h h1 h1' b = some x → h1' b = some x ∨ (h b = some x ∧ h1 b = none ∧ μ' b = μ b ∧ b < n) := by
    intro b x hb
    unfold merge at hb
    split at hb
    · rename_i y hy
      cases hb
      exact .inl hy
    · split at hb
      · rename_i hc
        refine .inr ⟨hb, ?_, F.le.μ b hc.1, hc.1⟩
        cases h2 : h1 b with
        | none => rfl
        | some y => rw [h2] at hc; simp at hc
      · cases hb
  have L : Ctx.Le (ctx (fun k => E k ∨ ∃ b x, h b = some x ∧ h1 b = none ∧ μ b = k) w' μ' κ' h1' n') (ctx E w' μ' κ' (merge n h h1 h1') n') := by
    refine ⟨Nat.le_refl _, fun _ _ => rfl, fun _ _ => rfl, fun k hk => ⟨hk.1, fun e => hk.2.1 (.inl e), fun b x hb e => ?_⟩, fun _ _ => rfl⟩
    rcases hm b x hb with h2 | ⟨h2, h3, h4, _⟩
    · exact hk.2.2 b x h2 e
    · exact hk.2.1 (.inr ⟨b, x, h2, h3, by rw [← h4]; exact e⟩)
  have F' : From E (ctx E w μ κ h n) (ctx E w' μ' κ' (merge n h h1 h1') n') := ⟨F.le.trans L, F.size, F.os, F.tape, F.output, fun k hk hlt => F.res k (.inl hk) hlt⟩
  refine ⟨⟨fun k hk => H'.lt k (.inl hk), ?_, ?_, ?_, ?_, fun g => (H.glob g).mono F'.le⟩, F', L⟩
  · intro b x hb
    rcases hm b x hb with h2 | ⟨h2, h3, h4, h5⟩
    · exact H'.bound b x h2
    · exact Nat.lt_of_lt_of_le h5 F.le.n
  · intro b b' x x' hb hb' e
    rcases hm b x hb with h2 | ⟨h2, h3, h4, h5⟩ <;> rcases hm b' x' hb' with k2 | ⟨k2, k3, k4, k5⟩
    · exact H'.inj b b' x x' h2 k2 e
    · exact absurd (Or.inr ⟨b', x', k2, k3, by rw [e, k4]⟩) (H'.res b x h2)
    · exact absurd (Or.inr ⟨b, x, h2, h3, by rw [← e, h4]⟩) (H'.res b' x' k2)
    · rw [h4, k4] at e
      exact H.inj b b' x x' h2 k2 e
  · intro b x hb
    rcases hm b x hb with h2 | ⟨h2, h3, h4, h5⟩
    · exact fun e => H'.res b x h2 (.inl e)
    · rw [h4]; exact H.res b x h2
  · intro b x hb
    rcases hm b x hb with h2 | ⟨h2, h3, h4, h5⟩
    · exact (H'.blk b x h2).mono L (H'.bound b x h2) rfl
    · refine (H.blk b x h2).mono F'.le (H.bound b x h2) ?_
      exact F.res _ (.inr ⟨b, x, h2, h3, rfl⟩) (H.blk b x h2).lt
end

/-- What goes on, kept from the simplifier's hands. -/
class Pr where p : Prop
class Kon where go : AV → Prop
class Kont where go : AV → St → Prop

def AV.closed : AV → Bool
  | .c x => x.closed
  | .agg xs => xs.all Cel.closed
  | .tup xs => xs.all fun x => match x with
    | .c x => x.closed
    | .agg xs => xs.all Cel.closed
    | .tup _ => false
def Blk.closed : Blk → Bool
  | .cells _ es => es.all fun e => e.all Cel.closed
  | .iter _ _ => true
  | .bld .. => true
  | .buf .. => true
  | .mapb _ es => es.all fun p => p.1.closed && p.2.closed
  | .mit .. => false

/-- A call by contract: the arguments may be read as they are told in 'h2' (what is lent); over the part 'h1' of the heap; 'keep': no block that was there changes. -/
def CallTo (P : Program) (Γ : Glob) (f : FuncId) (first : List AV) (xs : List Arg) (captured : List AV) (keep : Bool) [K : Kont] (s : St) : Prop :=
  ∃ vs, xs.mapM (·.get Γ s.env) = some vs ∧ ∃ (h2 : Heap) (as : List AV), (∀ b x, h2 b = some x → s.h b = some x) ∧ as.length = (first ++ vs ++ captured).length ∧
    (∀ (i : Nat) (x y : AV), (first ++ vs ++ captured)[i]? = some x → as[i]? = some y → x = y ∨ AVAs id s.h h2 s.n x y) ∧
    ∃ (h1 : Heap) (R : AV → Heap → Nat → Prop), (∀ b x, h1 b = some x → h2 b = some x) ∧ (keep = true → h1 = fun _ => none) ∧ ACalls P Γ f as h1 s.n R ∧
    ∀ r h1' n', s.n ≤ n' → R r h1' n' → (h2 = s.h ∨ (r.closed = true ∧ ∀ b x, h1' b = some x → x.closed = true)) ∧
      ∃ h3 : Heap, ((∀ b x, s.h b = some x → b < s.n) → ∀ b x, h3 b = some x → merge s.n s.h h1 h1' b = some x) ∧ K.go r ⟨s.env, h3, n'⟩

theorem CallTo.pure {P : Program} {Γ : Glob} {f : FuncId} {first captured vs : List AV} {xs : List Arg} {keep : Bool} {K : Kont} {s : St} {r : AV} (hv : xs.mapM (·.get Γ s.env) = some vs)
    (hc : APure P Γ f (first ++ vs ++ captured) r) (hk : ∀ n', s.n ≤ n' → K.go r ⟨s.env, s.h, n'⟩) : CallTo P Γ f first xs captured keep s := by
  refine ⟨vs, hv, s.h, first ++ vs ++ captured, fun b x hb => hb, rfl, fun i x y h1 h2 => .inl (by rw [h1] at h2; exact Option.some.inj h2), fun _ => none, _, fun b x hb => (by cases hb), fun _ => rfl, hc s.n, ?_⟩
  rintro r' h' n' hn ⟨rfl, rfl⟩
  refine ⟨.inl rfl, s.h, fun hb b x hx => ?_, hk n' hn⟩
  simp [merge, hb b x hx, hx]

def AOp.keeps : AOp → Bool
  | .box _ | .boxB _ | .bslice .. | .mksl .. | .toBytes _ | .rangeS _ | .mkmap _ => true
  | _ => false

/-- a list that is only read, held against nil: what is asked, and its elements -/
def eqnC (Γ : Glob) (s : St) : AOp → Option (Bool × List (List Cel))
  | .eqn neg x => match x.get Γ s.env with
    | some (.c (.ro false _ xs)) => some (neg, xs)
    | _ => none
  | _ => none

/-- the next entry of a range over a map: whichever comes -/
def NextTo (Γ : Glob) (keep : Bool) (d : Option Nat) (K : St → Prop) (s : St) : AOp → Prop
  | .nextM x => match x.get Γ s.env with
    | some (.c (.ref b 0 0 0)) => match s.h b with
      | some (.mit m la es) => keep = false ∧ (es = [] → K (s.put d (some (.tup [.c (.val (.bool false))])))) ∧
          ∀ i p, es[i]? = some p → K ((⟨s.env, upd s.h b (some (.mit m (some p) (es.eraseIdx i))), s.n⟩ : St).put d (some (.tup [.c (.val (.bool true)), .c p.1, p.2])))
      | _ => False
    | _ => False
  | _ => False
theorem NextTo.mono {Γ : Glob} {keep : Bool} {d : Option Nat} {K K' : St → Prop} {s : St} {op : AOp} (hK : ∀ s, K s → K' s) (h : NextTo Γ keep d K s op) : NextTo Γ keep d K' s op := by
  unfold NextTo at h ⊢
  split
  · split
    · split
      · simp only [*] at h
        exact ⟨h.1, fun e => hK _ (h.2.1 e), fun i p hi => hK _ (h.2.2 i p hi)⟩
      · simp only [*] at h
    · simp only [*] at h
  · simp only [*] at h

def evAct (P : Program) (Γ : Glob) (keep : Bool) (o : AOper) (K : St → Prop) (s : St) : Prop :=
  match o.op with
  | .call f xs => @CallTo P Γ f [] xs [] keep ⟨fun r s' => K (s'.put o.dst (some r))⟩ s
  | .callv g xs => match g.get Γ s.env with
    | some (.c (.fn (.func f) first captured)) => okFn P f = true ∧ @CallTo P Γ f (first.map .c) xs (captured.map .c) keep ⟨fun r s' => K (s'.put o.dst (some r))⟩ s
    | _ => False
  | op => match step1 Γ s op with
    | some v => K (s.put o.dst (some v))
    | none => match step2 Γ s op with
      | some (v, h', n') => (keep = true → op.keeps = true) ∧ K ((⟨s.env, h', n'⟩ : St).put o.dst v)
      | none => match eqnC Γ s op with
        | some (neg, xs) => ∀ b : Bool, (xs ≠ [] → b = neg) → K (s.put o.dst (some (.c (.val (.bool b)))))
        | none => NextTo Γ keep o.dst K s op

/-- A choice, left alone until it is known. -/
def GuardTo (b want : Bool) [X : Pr] [Y : Pr] : Prop := (b = want → X.p) ∧ (b ≠ want → Y.p)
def CondTo (b : Bool) [X : Pr] [Y : Pr] : Prop := (b = true → X.p) ∧ (b = false → Y.p)
theorem GuardTo.tt (X Y : Pr) : @GuardTo true true X Y = X.p := by simp [GuardTo]
theorem GuardTo.tf (X Y : Pr) : @GuardTo true false X Y = Y.p := by simp [GuardTo]
theorem GuardTo.ft (X Y : Pr) : @GuardTo false true X Y = Y.p := by simp [GuardTo]
theorem GuardTo.ff (X Y : Pr) : @GuardTo false false X Y = X.p := by simp [GuardTo]
theorem CondTo.t (X Y : Pr) : @CondTo true X Y = X.p := by simp [CondTo]
theorem CondTo.f (X Y : Pr) : @CondTo false X Y = Y.p := by simp [CondTo]
theorem GuardTo.byt {b : Bool} {X Y : Pr} (h1 : b = true → X.p) (h0 : b = false → Y.p) : @GuardTo b true X Y := by
  cases b
  · rw [GuardTo.ft]; exact h0 rfl
  · rw [GuardTo.tt]; exact h1 rfl
theorem GuardTo.byf {b : Bool} {X Y : Pr} (h1 : b = true → Y.p) (h0 : b = false → X.p) : @GuardTo b false X Y := by
  cases b
  · rw [GuardTo.ff]; exact h0 rfl
  · rw [GuardTo.tf]; exact h1 rfl
theorem CondTo.by {b : Bool} {X Y : Pr} (h1 : b = true → X.p) (h0 : b = false → Y.p) : @CondTo b X Y := ⟨h1, h0⟩

def evOp0 (P : Program) (Γ : Glob) (keep : Bool) (o : AOper) (K : St → Prop) (s : St) : Prop :=
  match o.guard with
  | none => evAct P Γ keep o K s
  | some (d, want) => match s.env d with
    | some (.c (.val (.bool b))) => @GuardTo b want ⟨evAct P Γ keep o K s⟩ ⟨K (s.put o.dst (some (.tup [])))⟩
    | some (.tup []) => K (s.put o.dst (some (.tup [])))
    | _ => False

def evOp (P : Program) (Γ : Glob) (k0 : Nat) (keep : Bool) (o : AOper) (K : St → Prop) (s : St) : Prop := ∃ s', Weak k0 s s' ∧ evOp0 P Γ keep o K s'

def evOps (P : Program) (Γ : Glob) (k0 : Nat) (K : St → Prop) : List AOper → St → Prop
  | [], s => ∃ s', Weak k0 s s' ∧ K s'
  | o :: r, s => evOp P Γ k0 false o (evOps P Γ k0 K r) s

/-- A quiet operation's value. -/
def evLook (Γ : Glob) (o : AOper) (s : St) : Option AV :=
  match o.guard with
  | none => step1 Γ s o.op
  | some (d, want) => match s.env d with
    | some (.c (.val (.bool b))) => if b = want then step1 Γ s o.op else some (.tup [])
    | some (.tup []) => some (.tup [])
    | _ => none

def evLookTo (Γ : Glob) (o : AOper) (s : St) [K : Kon] : Prop :=
  match o.guard with
  | none => match step1 Γ s o.op with
    | some v => K.go v
    | none => False
  | some (d, want) => match s.env d with
    | some (.c (.val (.bool b))) => @GuardTo b want ⟨match step1 Γ s o.op with
      | some v => K.go v
      | none => False⟩ ⟨K.go (.tup [])⟩
    | some (.tup []) => K.go (.tup [])
    | _ => False

theorem evLookTo_ok {Γ : Glob} {o : AOper} {s : St} {K : Kon} (h : evLookTo Γ o s) : ∃ v, evLook Γ o s = some v ∧ K.go v := by
  unfold evLookTo at h
  unfold evLook
  have one : ∀ x : Option AV, (match x with | some v => K.go v | none => False) → ∃ v, x = some v ∧ K.go v := by
    intro x hx
    cases x with
    | none => exact hx.elim
    | some v => exact ⟨v, rfl, hx⟩
  cases hg : o.guard with
  | none =>
    simp only [hg] at h
    exact one _ h
  | some p =>
    obtain ⟨d, want⟩ := p
    simp only [hg] at h
    show ∃ v, (match s.env d with
      | some (.c (.val (.bool b))) => if b = want then step1 Γ s o.op else some (.tup [])
      | some (.tup []) => some (.tup [])
      | _ => none) = some v ∧ K.go v
    split at h
    · rename_i b hb
      by_cases hbw : b = want
      · simp only [hb, if_pos hbw]
        exact one _ (h.1 hbw)
      · simp only [hb, if_neg hbw]
        exact ⟨_, rfl, h.2 hbw⟩
    · exact ⟨.tup [], by simp_all, h⟩
    · exact h.elim

def evDrawn (P : Program) (Γ : Glob) (k0 : Nat) (K : St → Prop) : List (AOper × Nat × Nat) → St → Prop
  | [], s => ∃ s', Weak k0 s s' ∧ K s'
  | (o, 0, _) :: r, s => ∃ s', Weak k0 s s' ∧ @evLookTo Γ o s' ⟨fun v => evDrawn P Γ k0 K r (s'.put o.dst (some v))⟩
  | (o, k + 1, _) :: r, s => evOp P Γ k0 (k == 0) o (evDrawn P Γ k0 K r) s

/-- a region that draws its order -/
def evT (P : Program) (Γ : Glob) (k0 : Nat) (K : St → Prop) : DT → St → Prop
  | .fin l, s => evDrawn P Γ k0 K l s
  | .alt l a b, s => evDrawn P Γ k0 (fun s => evT P Γ k0 K a s ∧ evT P Γ k0 K b s) l s

theorem evT_cons0 {P : Program} {Γ : Glob} {k0 : Nat} {K : St → Prop} {o : AOper} {i : Nat} {t : DT} {s : St} (h : evT P Γ k0 K (t.cons (o, 0, i)) s) : ∃ s', Weak k0 s s' ∧ @evLookTo Γ o s' ⟨fun v => evT P Γ k0 K t (s'.put o.dst (some v))⟩ := by
  cases t <;> exact h
theorem evT_cons {P : Program} {Γ : Glob} {k0 : Nat} {K : St → Prop} {o : AOper} {q i : Nat} {t : DT} {s : St} (h : evT P Γ k0 K (t.cons (o, q + 1, i)) s) : evOp P Γ k0 (q == 0) o (evT P Γ k0 K t) s := by
  cases t <;> exact h

def AThen (next : St → Prop) (Q : AExit → St → Prop) : AExit → St → Prop
  | .normal, s => next s
  | e, s => Q e s

def ABlock (id : Nat) (Q : AExit → St → Prop) : AExit → St → Prop
  | .exit id', s => if id' = id then Q .normal s else Q (.exit id') s
  | e, s => Q e s

end Go.Proofs.YtolmbcngghkfiaaDoorBv
