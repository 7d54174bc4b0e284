/- The calculus: words for the walks, and loops that are unrolled. It proves nothing of any program. -/
import Derived.Test.YtgfcmhomndofaaaAv17
namespace Go.Proofs.YtgfcmhomndofaaaAv
open Go
set_option linter.unusedVariables false
abbrev I (n : Int) : AV := .c (.val (.int .i64 n))
abbrev B (b : Bool) : AV := .c (.val (.bool b))
abbrev cI (n : Int) : Cel := .val (.int .i64 n)
abbrev cB (b : Bool) : Cel := .val (.bool b)
theorem upd_apply {α : Type} (f : Nat → α) (i j : Nat) (a : α) : upd f i a j = if j = i then a else f j := rfl
theorem AThen_n (K : St → Prop) (Q : AExit → St → Prop) (s : St) : AThen K Q .normal s = K s := rfl
theorem AThen_e (K : St → Prop) (Q : AExit → St → Prop) (i : Nat) (s : St) : AThen K Q (.exit i) s = Q (.exit i) s := rfl
theorem AThen_r (K : St → Prop) (Q : AExit → St → Prop) (s : St) : AThen K Q .ret s = Q .ret s := rfl
theorem ABlock_n (id : Nat) (Q : AExit → St → Prop) (s : St) : ABlock id Q .normal s = Q .normal s := rfl
theorem ABlock_e (id i : Nat) (Q : AExit → St → Prop) (s : St) : ABlock id Q (.exit i) s = if i = id then Q .normal s else Q (.exit i) s := rfl
theorem ABlock_r (id : Nat) (Q : AExit → St → Prop) (s : St) : ABlock id Q .ret s = Q .ret s := rfl
theorem EndsPure_n (rs : List ARes) (r : AV) (s : St) : EndsPure rs r .normal s = (evResults s rs = some r) := rfl
theorem EndsPure_r (rs : List ARes) (r : AV) (s : St) : EndsPure rs r .ret s = (evResults s rs = some r) := rfl

theorem w64 {n : Int} (h1 : -9223372036854775808 ≤ n) (h2 : n ≤ 9223372036854775807) : IntKind.i64.wrap n = n := IntWalk.i64_in _ (by omega)
theorem bool_ok {a b : Bool} (h : a = true ↔ b = true) : AV.c (Cel.val (Value.bool a)) = AV.c (Cel.val (Value.bool b)) := by rw [Bool.eq_iff_iff.2 h]
theorem prop_ok {a : Bool} {p : Prop} [Decidable p] (h : a = true ↔ p) : AV.c (Cel.val (Value.bool a)) = AV.c (Cel.val (Value.bool (decide p))) := bool_ok (h.trans decide_eq_true_iff.symm)
theorem int_ok {a b : Int} (h : a = b) : AV.c (Cel.val (Value.int .i64 a)) = AV.c (Cel.val (Value.int .i64 b)) := by rw [h]

/-! ### more holds behind it -/
section
variable {P : Program} {Γ : Glob}
theorem CallTo.mono {f : FuncId} {first : List AV} {xs : List Arg} {captured : List AV} {keep : Bool} {K K' : Kont} {s : St} (h : ∀ r s, K.go r s → K'.go r s)
    (hc : @CallTo P Γ f first xs captured keep K s) : @CallTo P Γ f first xs captured keep K' s := by
  obtain ⟨s', hw, vs, hvs, h1, R, a1, a2, a3, a4⟩ := hc
  refine ⟨s', hw, vs, hvs, h1, R, a1, a2, a3, fun r h1' n' hn hR => ?_⟩
  obtain ⟨h2, b1, b2⟩ := a4 r h1' n' hn hR
  exact ⟨h2, b1, h _ _ b2⟩

theorem CallTo.by {f : FuncId} {first captured args : List AV} {xs : List Arg} {keep : Bool} {K : Kont} {s : St} {r : AV} (hc : APure P Γ f args r)
    (hv : (xs.mapM fun (x : Arg) => x.get Γ s.env).map (fun vs => first ++ vs ++ captured) = some args) (hk : ∀ n', s.n ≤ n' → K.go r ⟨s.env, s.h, n'⟩) : @CallTo P Γ f first xs captured keep K s := by
  obtain ⟨vs, h1, rfl⟩ := Option.map_eq_some_iff.1 hv
  exact CallTo.pure h1 hc hk

theorem evAct_mono {keep : Bool} {o : AOper} {K K' : St → Prop} {s : St} (h : ∀ s, K s → K' s) (he : evAct P Γ keep o K s) : evAct P Γ keep o K' s := by
  unfold evAct at he ⊢
  split at he
  · exact CallTo.mono (fun r s => h _) he
  · split at he
    · exact ⟨he.1, CallTo.mono (fun r s => h _) he.2⟩
    · exact he.elim
  · split at he
    · exact h _ he
    · split at he
      · exact ⟨he.1, h _ he.2⟩
      · exact he.elim

theorem evOp_mono {keep : Bool} {o : AOper} {K K' : St → Prop} {s : St} (h : ∀ s, K s → K' s) (he : evOp P Γ keep o K s) : evOp P Γ keep o K' s := by
  unfold evOp at he ⊢
  split at he
  · exact evAct_mono h he
  · split at he
    · exact ⟨fun e => evAct_mono h (he.1 e), fun e => h _ (he.2 e)⟩
    · exact h _ he
    · exact he.elim

theorem evOps_mono {K K' : St → Prop} (h : ∀ s, K s → K' s) : ∀ (l : List AOper) (s : St), evOps P Γ K l s → evOps P Γ K' l s
  | [], s, he => h s he
  | o :: r, s, he => evOp_mono (fun s hs => evOps_mono h r s hs) he

theorem evLookTo_mono {o : AOper} {K K' : Kon} {s : St} (h : ∀ v, K.go v → K'.go v) (he : @evLookTo Γ o s K) : @evLookTo Γ o s K' := by
  unfold evLookTo at he ⊢
  have one : ∀ x : Option AV, (match x with | some v => K.go v | none => False) → (match x with | some v => K'.go v | none => False) := by
    intro x hx
    cases x with
    | none => exact hx
    | some v => exact h v hx
  split at he
  · exact one _ he
  · split at he
    · exact ⟨fun e => one _ (he.1 e), fun e => h _ (he.2 e)⟩
    · exact h _ he
    · exact he.elim

theorem evDrawn_mono {K K' : St → Prop} (h : ∀ s, K s → K' s) : ∀ (l : List (AOper × Nat × Nat)) (s : St), evDrawn P Γ K l s → evDrawn P Γ K' l s
  | [], s, he => h s he
  | (o, 0, _) :: r, s, he => evLookTo_mono (fun v hv => evDrawn_mono h r _ hv) he
  | (o, k + 1, _) :: r, s, he => evOp_mono (fun s hs => evDrawn_mono h r s hs) he

theorem AThen.mono {K K' : St → Prop} {Q Q' : AExit → St → Prop} (h : ∀ s, K s → K' s) (hq : ∀ e s, Q e s → Q' e s) : ∀ e s, AThen K Q e s → AThen K' Q' e s := by
  intro e s he
  cases e with
  | normal => exact h s he
  | exit id => exact hq _ s he
  | ret => exact hq _ s he

theorem ABlock.mono {id : Nat} {Q Q' : AExit → St → Prop} (hq : ∀ e s, Q e s → Q' e s) : ∀ e s, ABlock id Q e s → ABlock id Q' e s := by
  intro e s he
  cases e with
  | normal => exact hq _ s he
  | ret => exact hq _ s he
  | exit id' =>
    simp only [ABlock] at he ⊢
    split at he
    · rename_i h; rw [if_pos h]; exact hq _ s he
    · rename_i h; rw [if_neg h]; exact hq _ s he

theorem ev_mono : ∀ (c : ACode) {Q Q' : AExit → St → Prop} {s : St}, (∀ e s, Q e s → Q' e s) → ev P Γ c Q s → ev P Γ c Q' s
  | .skip, _, _, s, h, he => h _ s he
  | .region ops, _, _, s, h, he => evOps_mono (fun s => h _ s) ops s he
  | .drawn ops, _, _, s, h, he => evDrawn_mono (fun s => h _ s) ops s he
  | .seq a b, _, _, s, h, he => ev_mono a (AThen.mono (fun s hs => ev_mono b h hs) h) he
  | .cond c t e, _, _, s, h, he => by
    simp only [ev] at he ⊢
    split at he
    · exact ⟨fun hb => ev_mono t h (he.1 hb), fun hb => ev_mono e h (he.2 hb)⟩
    · exact he.elim
  | .block id b, _, _, s, h, he => ev_mono b (ABlock.mono h) he
  | .loop b, _, _, s, h, he => by
    obtain ⟨I, m, h1, h2⟩ := he
    exact ⟨I, m, h1, fun s hs => ev_mono b (AThen.mono (fun _ h => h) h) (h2 s hs)⟩
  | .exit id, _, _, s, h, he => h _ s he
  | .ret, _, _, s, h, he => h _ s he

/-- A loop, unrolled so many times. -/
def LoopN (P : Program) (Γ : Glob) (b : ACode) [Q : Post'] : Nat → St → Prop
  | 0, _ => False
  | k + 1, s => ev P Γ b (AThen (LoopN P Γ b k) Q.go) s

theorem LoopTo.ofN {b : ACode} {Q : Post'} (k : Nat) {s : St} (h : @LoopN P Γ b Q k s) : @LoopTo ⟨ev P Γ b⟩ Q s := by
  have hleast : ∀ s, ∃ j, (∃ k', @LoopN P Γ b Q k' s) → @LoopN P Γ b Q j s ∧ ∀ i, @LoopN P Γ b Q i s → j ≤ i := by
    intro s
    by_cases h : ∃ k', @LoopN P Γ b Q k' s
    · obtain ⟨j, hj⟩ := exists_least h
      exact ⟨j, fun _ => hj⟩
    · exact ⟨0, fun h' => absurd h' h⟩
  let M : St → Nat := fun s => Classical.choose (hleast s)
  have hM : ∀ s, (∃ k', @LoopN P Γ b Q k' s) → @LoopN P Γ b Q (M s) s ∧ ∀ i, @LoopN P Γ b Q i s → M s ≤ i := fun s => Classical.choose_spec (hleast s)
  refine ⟨fun s => ∃ k', @LoopN P Γ b Q k' s, M, ⟨s, .refl s, k, h⟩, fun s1 hs1 => ?_⟩
  obtain ⟨h1, h2⟩ := hM s1 hs1
  cases hk : M s1 with
  | zero => rw [hk] at h1; exact h1.elim
  | succ j =>
    rw [hk] at h1
    refine ev_mono b (AThen.mono (fun s2 hs2 => ⟨s2, .refl s2, ⟨j, hs2⟩, ?_⟩) fun _ _ h => h) h1
    have := (hM s2 ⟨j, hs2⟩).2 j hs2
    omega

theorem LoopN_succ (b : ACode) (Q : Post') (k : Nat) (s : St) : @LoopN P Γ b Q (k + 1) s = ev P Γ b (AThen (@LoopN P Γ b Q k) Q.go) s := rfl

theorem LoopN_zero (b : ACode) (Q : Post') (s : St) : @LoopN P Γ b Q 0 s = False := rfl

/-- A loop by an invariant over one number that gets less. -/
theorem LoopTo.inv {b : ACode} {Q : Post'} {s : St} (I : Nat → St → Prop) (k0 : Nat) (h0 : I k0 s)
    (round : ∀ k s, I k s → ev P Γ b (AThen (fun s' => ∃ k', k' < k ∧ I k' s') Q.go) s) : @LoopTo ⟨ev P Γ b⟩ Q s := by
  refine LoopTo.ofN (k0 + 1) ?_
  have : ∀ k, ∀ j, j < k → ∀ s, I j s → @LoopN P Γ b Q k s := by
    intro k
    induction k with
    | zero => intro j hj; omega
    | succ k ih =>
      intro j hj s hs
      rw [LoopN_succ]
      exact ev_mono b (AThen.mono (fun s' ⟨j', hlt, hs'⟩ => ih j' (by omega) s' hs') fun _ _ h => h) (round j s hs)
  exact this _ k0 (Nat.lt_succ_self _) s h0
end
end Go.Proofs.YtgfcmhomndofaaaAv
