/- The calculus: a contract under other names of blocks. It proves nothing of any program. -/
import Derived.Test.YtolmbcngghkfiaaDoorBv17
namespace Go.Proofs.YtolmbcngghkfiaaDoorBv
open Go
set_option linter.unusedVariables false
set_option linter.unusedSimpArgs false

mutual
def Cel.map (ρ : Nat → Nat) : Cel → Cel
  | .ref b sz i j => .ref (ρ b) sz i j
  | .own b sz off len m => .own (ρ b) sz off len m
  | .fn f a b => .fn f (Cel.mapL ρ a) (Cel.mapL ρ b)
  | .val v => .val v
  | .str l => .str l
  | .ro nl sz xs => .ro nl sz xs
  | .rop cs => .rop cs
  | .emp sz => .emp sz
  | .mp b => .mp (ρ b)
  | .opq => .opq
def Cel.mapL (ρ : Nat → Nat) : List Cel → List Cel
  | [] => []
  | x :: r => Cel.map ρ x :: Cel.mapL ρ r
end
theorem Cel.mapL_eq (ρ : Nat → Nat) : ∀ l : List Cel, Cel.mapL ρ l = l.map (Cel.map ρ)
  | [] => rfl
  | x :: r => by simp only [Cel.mapL, List.map_cons, Cel.mapL_eq ρ r]
mutual
def AV.map (ρ : Nat → Nat) : AV → AV
  | .c x => .c (x.map ρ)
  | .agg xs => .agg (Cel.mapL ρ xs)
  | .tup xs => .tup (AV.mapL ρ xs)
def AV.mapL (ρ : Nat → Nat) : List AV → List AV
  | [] => []
  | x :: r => AV.map ρ x :: AV.mapL ρ r
end
theorem AV.mapL_eq (ρ : Nat → Nat) : ∀ l : List AV, AV.mapL ρ l = l.map (AV.map ρ)
  | [] => rfl
  | x :: r => by simp only [AV.mapL, List.map_cons, AV.mapL_eq ρ r]
def Blk.map (ρ : Nat → Nat) : Blk → Blk
  | .cells sz es => .cells sz (es.map (Cel.mapL ρ))
  | .iter s p => .iter s p
  | .bld T z c len => .bld T z (ρ c) len
  | .buf e l => .buf e l
  | .mapb m es => .mapb m es
  | .mit m la es => .mit m la es

theorem free_map {ρ : Nat → Nat} {x : Cel} (h : x.free = true) : x.map ρ = x := by
  cases x with
  | ref => cases h
  | own => cases h
  | mp => cases h
  | fn f a b =>
    cases a with
    | cons => cases h
    | nil => cases b with
      | cons => cases h
      | nil => rfl
  | _ => rfl
theorem freeL_map {ρ : Nat → Nat} : ∀ {l : List Cel}, freeL l = true → Cel.mapL ρ l = l
  | [], _ => rfl
  | x :: r, h => by
    simp only [freeL, List.all_cons, Bool.and_eq_true] at h
    simp only [Cel.mapL, free_map h.1, freeL_map (l := r) h.2]
theorem blk_map {ρ : Nat → Nat} {sz : Nat} {es : List (List Cel)} (h : ∀ e, e ∈ es → freeL e = true) : (Blk.cells sz es).map ρ = .cells sz es := by
  simp only [Blk.map]
  congr 1
  exact (List.map_congr_left (g := id) fun e he => freeL_map (h e he)).trans (List.map_id _)

section
variable {Γ : Glob} {E : Nat → Prop} {w : World} {μ κ : Nat → Nat} {h h' : Heap} {n n' : Nat} {ρ τ : Nat → Nat}

/-- names mapped forth, told by names mapped back -/
theorem celAs_map {K : Ctx} {x : Cel} {v : Value} (r : RelC K x v) (hτ : ∀ b, b < K.n → τ (ρ b) = b ∧ ρ b < n') : CelAs τ h h' n' x (x.map ρ) := by
  induction r with
  | val => exact .same rfl
  | str => exact .same rfl
  | ref hb => exact .ref (hτ _ hb).1.symm (hτ _ hb).2
  | own hb hl => exact .own (hτ _ hb).1.symm (hτ _ hb).2 hl (Nat.le_refl _)
  | mp hb => exact .mp (hτ _ hb).1.symm (hτ _ hb).2
  | opq => exact .same rfl
  | ro => exact .same rfl
  | rop => exact .same rfl
  | emp => exact .same rfl
  | @fn K f a b vs us h1 h2 r1 r2 ih1 ih2 =>
    simp only [Cel.map, Cel.mapL_eq]
    refine .fn (by simp) (by simp) (fun i x y hx hy => ?_) (fun i x y hx hy => ?_)
    · rw [List.getElem?_map, hx] at hy
      cases hy
      exact ih1 i x hx hτ
    · rw [List.getElem?_map, hx] at hy
      cases hy
      exact ih2 i x hx hτ

theorem avAs_map {K : Ctx} {x : AV} {v : Value} (r : RelV K x v) (hτ : ∀ b, b < K.n → τ (ρ b) = b ∧ ρ b < n') : AVAs τ h h' n' x (x.map ρ) := by
  induction r with
  | c r => exact .c (celAs_map r hτ)
  | agg hl r =>
    simp only [AV.map, Cel.mapL_eq]
    refine .agg (by simp) fun i x y hx hy => ?_
    rw [List.getElem?_map, hx] at hy
    cases hy
    exact celAs_map (r i x hx) hτ
  | tup hl r ih =>
    simp only [AV.map, AV.mapL_eq]
    refine .tup (by simp) fun i x y hx hy => ?_
    rw [List.getElem?_map, hx] at hy
    cases hy
    exact ih i x hx

theorem blkAs_map {K : Ctx} {b : Nat} {x : Blk} (r : BlkRel K b x) (hτ : ∀ b, b < K.n → τ (ρ b) = b ∧ ρ b < n') : BlkAs τ h h' n' x (x.map ρ) := by
  cases x with
  | iter => exact .iter
  | bld T z c len =>
    obtain ⟨p, v, _, _, hc, _⟩ := r
    exact .bld (hτ c hc).1.symm (hτ c hc).2
  | buf e l => exact .buf
  | mapb m es => exact .map
  | mit m la es => exact .mit (.inl rfl)
  | cells sz es =>
    obtain ⟨C, t, fr, h0, h1, h2, h3, h4⟩ := r
    refine .cells (by simp) fun i e' he' => ?_
    rw [List.getElem?_map] at he'
    obtain ⟨e, he, rfl⟩ := Option.map_eq_some_iff.1 he'
    refine ⟨e, he, by simp [Cel.mapL_eq], fun j x y hx hy => ?_⟩
    rw [Cel.mapL_eq, List.getElem?_map, hx] at hy
    cases hy
    obtain ⟨v, hv, hr⟩ := (h4 i e he).2 j x hx
    exact celAs_map hr hτ

theorem heapAs_ok {σ : Nat → Nat} (H : HeapOK Γ E w μ κ h n) (hh : ∀ b x', h' b = some x' → b < n' ∧ ∃ x, h (σ b) = some x ∧ BlkAs σ h h' n' x x') (hi : ∀ b b' x x', h' b = some x → h' b' = some x' → σ b = σ b' → b = b') :
    HeapOK Γ E w (fun b => μ (σ b)) (fun b => κ (σ b)) h' n' := by
  have hl : Sub' σ h h' := fun b x hb => by obtain ⟨_, y, hy, _⟩ := hh b x hb; exact ⟨y, hy⟩
  refine ⟨H.lt, fun b x hb => (hh b x hb).1, fun b b' x x' hb hb' e => ?_, fun b x hb => ?_, fun b x hb => ?_, fun g => ?_⟩
  · obtain ⟨y, hy⟩ := hl b x hb
    obtain ⟨y', hy'⟩ := hl b' x' hb'
    exact hi b b' x x' hb hb' (H.inj _ _ y y' hy hy' e)
  · obtain ⟨y, hy⟩ := hl b x hb
    exact H.res _ y hy
  · obtain ⟨_, y, hy, q⟩ := hh b x hb
    exact q.ok H hl (H.blk _ y hy)
  · exact (show GlobOK (ctx E w μ κ h n).bare g (Γ g) from ⟨free_bare (H.glob g).1 rfl, (H.glob g).2⟩).mono (bare_as hl)

/-- other names for what is not there -/
theorem heap_agree {μ' κ' : Nat → Nat} (H : HeapOK Γ E w μ κ h n) (hμ : ∀ b, b < n → μ' b = μ b) (hκ : ∀ b, b < n → κ' b = κ b) : HeapOK Γ E w μ' κ' h n ∧ Ctx.Le (ctx E w μ κ h n) (ctx E w μ' κ' h n) := by
  have L : Ctx.Le (ctx E w μ κ h n) (ctx E w μ' κ' h n) := ⟨Nat.le_refl _, hμ, hκ, fun k hk => ⟨hk.1, hk.2.1, fun b x hb => by
    show μ' b ≠ k
    rw [hμ b (H.bound b x hb)]; exact hk.2.2 b x hb⟩, fun _ _ => rfl⟩
  refine ⟨⟨H.lt, H.bound, fun b b' x x' hb hb' e => ?_, fun b x hb => ?_, fun b x hb => ?_, fun g => (H.glob g).mono L⟩, L⟩
  · rw [hμ b (H.bound b x hb), hμ b' (H.bound b' x' hb')] at e
    exact H.inj b b' x x' hb hb' e
  · rw [hμ b (H.bound b x hb)]; exact H.res b x hb
  · refine (H.blk b x hb).mono L (H.bound b x hb) rfl
end

/-! ### the names at a call -/
def pos : List Nat → Nat → Nat → Option Nat
  | [], _, _ => none
  | x :: r, a, i => bif Nat.beq x a then some i else pos r a (i + 1)
/-- a callee's name of a block, at the call -/
def rho (bs : List Nat) (n b : Nat) : Nat := match bs[b]? with
  | some a => a
  | none => n + (b - bs.length)
/-- and back -/
def tau (bs : List Nat) (n n' a : Nat) : Nat := bif Nat.ble (a + 1) n then (match pos bs a 0 with | some b => b | none => n' + a) else bs.length + (a - n)
/-- a callee's heap, at the call -/
def hmap (bs : List Nat) (n n' : Nat) (h : Heap) : Heap := fun a => (h (tau bs n n' a)).map (Blk.map (rho bs n))

theorem pos_some : ∀ {bs : List Nat} {a i b : Nat}, pos bs a i = some b → i ≤ b ∧ bs[b - i]? = some a
  | [], _, _, _, h => by cases h
  | x :: r, a, i, b, h => by
    unfold pos at h
    cases hx : Nat.beq x a with
    | true =>
      rw [hx] at h
      cases h
      have := Nat.eq_of_beq_eq_true hx
      simp [this]
    | false =>
      rw [hx] at h
      obtain ⟨h1, h2⟩ := pos_some (bs := r) h
      refine ⟨by omega, ?_⟩
      rw [show b - i = (b - (i + 1)) + 1 by omega, List.getElem?_cons_succ]
      exact h2
theorem pos_none : ∀ {bs : List Nat} {a i : Nat}, pos bs a i = none → a ∉ bs
  | [], _, _, _ => by simp
  | x :: r, a, i, h => by
    unfold pos at h
    cases hx : Nat.beq x a with
    | true => rw [hx] at h; cases h
    | false =>
      rw [hx] at h
      have := pos_none (bs := r) h
      have h2 : x ≠ a := fun e => by subst e; simp at hx
      simp [this, Ne.symm h2]
theorem pos_of : ∀ {bs : List Nat} {a i b : Nat}, bs.Nodup → bs[b]? = some a → pos bs a i = some (b + i)
  | [], _, _, _, _, h => by simp at h
  | x :: r, a, i, b, hn, h => by
    unfold pos
    cases b with
    | zero =>
      simp only [List.getElem?_cons_zero, Option.some.injEq] at h
      subst h
      simp
    | succ b =>
      simp only [List.getElem?_cons_succ] at h
      have hm : a ∈ r := List.mem_of_getElem? h
      have hx : x ≠ a := fun e => by subst e; exact (List.nodup_cons.1 hn).1 hm
      have hb : Nat.beq x a = false := by
        cases e : Nat.beq x a with
        | false => rfl
        | true => exact absurd (Nat.eq_of_beq_eq_true e) hx
      rw [hb]
      simp only [cond_false]
      rw [pos_of (List.nodup_cons.1 hn).2 h]
      congr 1
      omega

theorem tau_rho {bs : List Nat} {n n' b : Nat} (hn : bs.Nodup) (hb : ∀ a, a ∈ bs → a < n) : tau bs n n' (rho bs n b) = b := by
  unfold rho
  cases h : bs[b]? with
  | some a =>
    have ha := hb a (List.mem_of_getElem? h)
    simp only
    unfold tau
    rw [show Nat.ble (a + 1) n = true from Nat.ble_eq_true_of_le ha, pos_of (i := 0) hn h]
    rfl
  | none =>
    have hl : bs.length ≤ b := by simpa using h
    simp only
    unfold tau
    have : Nat.ble (n + (b - bs.length) + 1) n = false := by
      cases e : Nat.ble (n + (b - bs.length) + 1) n with
      | false => rfl
      | true => have := Nat.le_of_ble_eq_true e; omega
    rw [this]
    simp only [cond_false]
    omega

theorem rho_lt {bs : List Nat} {n n' b : Nat} (hb : ∀ a, a ∈ bs → a < n) (hl : b < n') : rho bs n b < n + (n' - bs.length) ∨ n' < bs.length := by
  unfold rho
  cases h : bs[b]? with
  | some a => left; have := hb a (List.mem_of_getElem? h); simp only; omega
  | none =>
    have hl : bs.length ≤ b := by simpa using h
    simp only
    omega

/-- what 'tau' gives -/
theorem tau_cases {bs : List Nat} {n n' a : Nat} : (a < n ∧ ∃ b, bs[b]? = some a ∧ tau bs n n' a = b) ∨ (a < n ∧ tau bs n n' a = n' + a) ∨ (n ≤ a ∧ tau bs n n' a = bs.length + (a - n)) := by
  unfold tau
  cases e : Nat.ble (a + 1) n with
  | true =>
    have := Nat.le_of_ble_eq_true e
    cases hp : pos bs a 0 with
    | some b => exact .inl ⟨this, b, by simpa using (pos_some hp).2, rfl⟩
    | none => exact .inr (.inl ⟨this, rfl⟩)
  | false =>
    have : ¬ a + 1 ≤ n := fun h => by rw [Nat.ble_eq_true_of_le h] at e; cases e
    exact .inr (.inr ⟨by omega, rfl⟩)

section
variable {P : Program} {Γ : Glob}

/-- A contract over blocks that are called 0, 1, .., at a call where they are called 'bs', and what is new from 'n' on. -/
theorem ACalls.ren {f : FuncId} {bs : List Nat} {n : Nat} {h0 h1 : Heap} {as0 as : List AV} {R : AV → Heap → Nat → Prop} (hc : ACalls P Γ f as0 h0 bs.length R) (hnd : bs.Nodup) (hb : ∀ a, a ∈ bs → a < n)
    (hl : as0.length = as.length) (ha : ∀ (i : Nat) (x y : AV), as[i]? = some x → as0[i]? = some y → AVAs (fun b => bs.getD b 0) h1 h0 bs.length x y)
    (hh : ∀ b x', h0 b = some x' → b < bs.length ∧ ∃ x, h1 (bs.getD b 0) = some x ∧ BlkAs (fun b => bs.getD b 0) h1 h0 bs.length x x') :
    ACalls P Γ f as h1 n fun ra hA na => ∃ r h' n', bs.length ≤ n' ∧ R r h' n' ∧ ra = r.map (rho bs n) ∧ hA = hmap bs n n' h' ∧ na = n + (n' - bs.length) := by
  intro E w μ κ cargs H hlen hrel
  have hi : ∀ b b' x x', h0 b = some x → h0 b' = some x' → bs.getD b 0 = bs.getD b' 0 → b = b' := by
    intro b b' x x' e1 e2 e
    have l1 := (hh b x e1).1
    have l2 := (hh b' x' e2).1
    simp only [List.getD, List.getElem?_eq_getElem l1, List.getElem?_eq_getElem l2, Option.getD_some] at e
    exact (List.getElem_inj hnd).1 e
  have H0 : HeapOK Γ E w (fun b => μ (bs.getD b 0)) (fun b => κ (bs.getD b 0)) h0 bs.length := heapAs_ok H hh hi
  have hl0 : Sub' (fun b => bs.getD b 0) h1 h0 := fun b x hb => by obtain ⟨_, y, hy, _⟩ := hh b x hb; exact ⟨y, hy⟩
  refine Calls.mono (hc E w _ _ cargs H0 (hlen.trans hl.symm) (fun i y hy => ?_)) fun e w' he => ?_
  · have hlt := (List.getElem?_eq_some_iff.1 hy).1
    have hx := List.getElem?_eq_getElem (l := as) (i := i) (by omega)
    exact (ha i _ y hx hy).ok H hl0 (hrel i _ hx)
  · obtain ⟨cv, r, h', n', μ', κ', rfl, hR, H', F, hr⟩ := he
    have hn' : bs.length ≤ n' := F.le.n
    -- the callee's names, and behind them all names of before
    have agree := heap_agree (μ' := fun b => if b < n' then μ' b else μ (b - n')) (κ' := fun b => if b < n' then κ' b else κ (b - n')) H' (fun b hb => if_pos hb) (fun b hb => if_pos hb)
    obtain ⟨H2, L2⟩ := agree
    have hr2 := hr.mono L2
    have hτ : ∀ b, b < n' → tau bs n n' (rho bs n b) = b ∧ rho bs n b < n + (n' - bs.length) := fun b hb' => ⟨tau_rho hnd hb, by rcases rho_lt (n' := n') hb hb' with h | h <;> omega⟩
    have hmapd : ∀ a x', hmap bs n n' h' a = some x' → ∃ x, h' (tau bs n n' a) = some x ∧ x' = x.map (rho bs n) ∧ a = rho bs n (tau bs n n' a) ∧ tau bs n n' a < n' := by
      intro a x' hx
      unfold hmap at hx
      obtain ⟨x, hx1, rfl⟩ := Option.map_eq_some_iff.1 hx
      have hlt := H'.bound _ x hx1
      refine ⟨x, hx1, rfl, ?_, hlt⟩
      rcases tau_cases (bs := bs) (n := n) (n' := n') (a := a) with ⟨q1, b, q2, q3⟩ | ⟨q1, q2⟩ | ⟨q1, q2⟩
      · rw [q3]; unfold rho; rw [q2]
      · omega
      · rw [q2]; unfold rho
        rw [List.getElem?_eq_none (by omega)]
        simp only
        omega
    have Hn : HeapOK Γ E w' (fun a => if tau bs n n' a < n' then μ' (tau bs n n' a) else μ (tau bs n n' a - n')) (fun a => if tau bs n n' a < n' then κ' (tau bs n n' a) else κ (tau bs n n' a - n')) (hmap bs n n' h') (n + (n' - bs.length)) := by
      refine heapAs_ok (σ := tau bs n n') H2 (fun a x' hx => ?_) (fun a a' x x' hx hx' e => ?_)
      · obtain ⟨x, hx1, rfl, hx3, hx4⟩ := hmapd a x' hx
        refine ⟨by rw [hx3]; exact (hτ _ hx4).2, x, hx1, blkAs_map (H2.blk _ x hx1) hτ⟩
      · obtain ⟨_, _, _, e1, _⟩ := hmapd a x hx
        obtain ⟨_, _, _, e2, _⟩ := hmapd a' x' hx'
        rw [e1, e2, e]
    have hsub : Sub' (tau bs n n') h' (hmap bs n n' h') := fun a x hx => by obtain ⟨y, hy, _⟩ := hmapd a x hx; exact ⟨y, hy⟩
    refine ⟨cv, r.map (rho bs n), hmap bs n n' h', n + (n' - bs.length), _, _, rfl, ⟨r, h', n', hn', hR, rfl, rfl, rfl⟩, Hn, ?_, ?_⟩
    · have same : ∀ a, a < n → (∃ b, b < bs.length ∧ bs.getD b 0 = a ∧ tau bs n n' a = b) ∨ tau bs n n' a = n' + a := by
        intro a ha
        rcases tau_cases (bs := bs) (n := n) (n' := n') (a := a) with ⟨q1, b, q2, q3⟩ | ⟨q1, q2⟩ | ⟨q1, q2⟩
        · exact .inl ⟨b, (List.getElem?_eq_some_iff.1 q2).1, by simp [List.getD, q2], q3⟩
        · exact .inr q2
        · omega
      refine ⟨⟨Nat.le_add_right _ _, fun a ha => ?_, fun a ha => ?_, fun k hk => ?_, fun k hk => F.le.heap k (stab_as hl0 hk)⟩, F.size, F.os, F.tape, F.output, F.res⟩
      · show (if tau bs n n' a < n' then μ' (tau bs n n' a) else μ (tau bs n n' a - n')) = μ a
        rcases same a ha with ⟨b, hb1, hb2, hb3⟩ | hb3
        · rw [hb3, if_pos (by omega)]
          exact (F.le.μ b hb1).trans (congrArg μ hb2)
        · rw [hb3, if_neg (by omega)]
          congr 1
          omega
      · show (if tau bs n n' a < n' then κ' (tau bs n n' a) else κ (tau bs n n' a - n')) = κ a
        rcases same a ha with ⟨b, hb1, hb2, hb3⟩ | hb3
        · rw [hb3, if_pos (by omega)]
          exact (F.le.κ b hb1).trans (congrArg κ hb2)
        · rw [hb3, if_neg (by omega)]
          congr 1
          omega
      · have hk' := F.le.S k (stab_as hl0 hk)
        refine ⟨hk'.1, hk'.2.1, fun a x hx => ?_⟩
        obtain ⟨y, hy, _, _, hlt⟩ := hmapd a x hx
        show (if tau bs n n' a < n' then μ' (tau bs n n' a) else μ (tau bs n n' a - n')) ≠ k
        rw [if_pos hlt]
        exact hk'.2.2 _ y hy
    · exact (avAs_map (h := h') (h' := hmap bs n n' h') hr2 hτ).ok H2 hsub hr2

/-- A call that leaves nothing of its own behind it, from what has no name of its own in it. -/
def CPure (P : Program) (Γ : Glob) (f : FuncId) (as : List AV) (r : AV) : Prop := ACalls P Γ f as (fun _ => none) 0 fun v h' n' => v = r ∧ (h' = fun _ => none) ∧ n' = 0
end
end Go.Proofs.YtolmbcngghkfiaaDoorBv
