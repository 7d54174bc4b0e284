/- The calculus: the steps of a walk, one lemma for each. It proves nothing of any program. -/
import Derived.Test.YtolmbcngghkfiaaDoorBv20
import Derived.IntWalk
namespace Go.Proofs.YtolmbcngghkfiaaDoorBv
open Go
set_option linter.unusedVariables false
set_option linter.unusedSimpArgs false
abbrev I (n : Int) : AV := .c (.val (.int .i64 n))
abbrev B (b : Bool) : AV := .c (.val (.bool b))
abbrev S (l : List UInt8) : AV := .c (.str l)
abbrev U : AV := .tup []
abbrev cI (n : Int) : Cel := .val (.int .i64 n)
abbrev cB (b : Bool) : Cel := .val (.bool b)

/-! ### what is bounded in no way: a loop, a recursion -/
noncomputable def lim {α : Type} (g : Nat → Option α) : Option α := open Classical in if h : ∃ r N, ∀ k, N ≤ k → g k = some r then some h.choose else none
theorem lim_some {α : Type} {g : Nat → Option α} {r : α} (h : lim g = some r) : ∃ k, g k = some r := by
  unfold lim at h
  split at h
  · rename_i hx
    obtain ⟨N, hN⟩ := hx.choose_spec
    cases h
    exact ⟨N, hN N (Nat.le_refl _)⟩
  · cases h
theorem lim_of {α : Type} {g : Nat → Option α} {r : α} (N : Nat) (h : ∀ k, N ≤ k → g k = some r) : lim g = some r := by
  have hx : ∃ r N, ∀ k, N ≤ k → g k = some r := ⟨r, N, h⟩
  unfold lim
  rw [dif_pos hx]
  obtain ⟨M, hM⟩ := hx.choose_spec
  have e1 := h (max N M) (Nat.le_max_left _ _)
  have e2 := hM (max N M) (Nat.le_max_right _ _)
  rw [e1] at e2
  exact e2.symm

/-! ### partial operations, as functions -/
def at? {α : Type} (l : List α) (i : Int) : Option α := if 0 ≤ i then l[i.toNat]? else none
def wi (n : Int) : Int := IntKind.i64.wrap n
theorem at_spec {α : Type} {l : List α} {i : Int} {a : α} (h : at? l i = some a) : 0 ≤ i ∧ l[i.toNat]? = some a := by
  unfold at? at h
  split at h
  · exact ⟨by assumption, h⟩
  · cases h
/-- l[a:b] -/
def sub? {α : Type} (l : List α) (a b : Int) : Option (List α) := if 0 ≤ a ∧ a ≤ b ∧ b ≤ l.length then some ((l.take b.toNat).drop a.toNat) else none
theorem sub_spec {α : Type} {l r : List α} {a b : Int} (h : sub? l a b = some r) : 0 ≤ a ∧ a ≤ b ∧ b ≤ l.length ∧ r = (l.take b.toNat).drop a.toNat := by
  unfold sub? at h
  split at h
  · rename_i hc
    cases h
    exact ⟨hc.1, hc.2.1, hc.2.2, rfl⟩
  · cases h
/-- a ++ b, where it is not too much -/
def app? {α : Type} (bytes : Nat) (a b : List α) : Option (List α) := if (a.length + b.length) * bytes ≤ 140737488355328 then some (a ++ b) else none
theorem app_spec {α : Type} {bytes : Nat} {a b r : List α} (h : app? bytes a b = some r) : (a.length + b.length) * bytes ≤ 140737488355328 ∧ r = a ++ b := by
  unfold app? at h
  split at h
  · cases h; exact ⟨by assumption, rfl⟩
  · cases h
/-- the text a + b -/
def cat? (a b : List UInt8) : Option (List UInt8) := if a.length + b.length ≤ 9223372036854775807 then some (a ++ b) else none
theorem cat_spec {a b r : List UInt8} (h : cat? a b = some r) : a.length + b.length ≤ 9223372036854775807 ∧ r = a ++ b := by
  unfold cat? at h
  split at h
  · cases h; exact ⟨by assumption, rfl⟩
  · cases h

/-! ### a list of the call's own: nil (z), or a row of a live block -/
def lstC (z : Bool) (b sz len : Nat) : Cel := bif z then .ro true sz [] else .own b sz 0 len len
abbrev lstV (z : Bool) (b sz len : Nat) : AV := .c (lstC z b sz len)
def lstB (z : Bool) (sz : Nat) (es : List (List Cel)) : Option Blk := bif z then none else some (.cells sz es)
/-- the bytes of a strings.Builder -/
def bufB (z : Bool) (e : TypeId) (l : List UInt8) : Option Blk := bif z then none else some (.buf e l)

/-! ### less is told -/
def EnvSub (e e' : Nat → Option AV) : Prop := ∀ d v, e d = some v → e' d = some v
theorem EnvSub.refl (e : Nat → Option AV) : EnvSub e e := fun _ _ h => h
theorem EnvSub.put {e e' : Nat → Option AV} (d : Nat) (v : Option AV) (h : EnvSub e e') : EnvSub (upd e d v) (upd e' d v) := by
  intro d' v' h'
  by_cases c : d' = d
  · subst c; rw [upd_same] at h' ⊢; exact h'
  · rw [upd_ne _ _ c] at h' ⊢; exact h _ _ h'
theorem EnvSub.skip {e e' : Nat → Option AV} (d : Nat) (v : Option AV) (h : EnvSub e e') (hn : e d = none) : EnvSub e (upd e' d v) := by
  intro d' v' h'
  by_cases c : d' = d
  · subst c; rw [hn] at h'; cases h'
  · rw [upd_ne _ _ c]; exact h _ _ h'
theorem EnvSub.weak {k0 : Nat} {e e' : Nat → Option AV} {h : Heap} {n : Nat} (k : EnvSub e e') : Weak k0 ⟨e', h, n⟩ ⟨e, h, n⟩ :=
  .same (s := ⟨e', h, n⟩) (s' := ⟨e, h, n⟩) ⟨rfl, fun b x hb => ⟨x, hb, .inl rfl⟩, fun d v hv => .inl (k d v hv)⟩ (.refl _)

section
variable {σ : Nat → Nat} {h h' : Heap} {n' : Nat}
def AV.free : AV → Bool
  | .c x => x.free
  | .agg xs => freeL xs
  | .tup xs => xs.all fun x => match x with
    | .c x => x.free
    | .agg xs => freeL xs
    | .tup _ => false
theorem celAs_free {x : Cel} (hf : x.free = true) : CelAs σ h h' n' x x := .same hf
theorem celsAs_free {xs : List Cel} (hf : freeL xs = true) (i : Nat) (x y : Cel) (hx : xs[i]? = some x) (hy : xs[i]? = some y) : CelAs σ h h' n' x y := by
  rw [hx] at hy
  cases hy
  exact .same (List.all_eq_true.1 hf x (List.mem_of_getElem? hx))
theorem avAs_free {v : AV} (hf : v.free = true) : AVAs σ h h' n' v v := by
  cases v with
  | c x => exact .c (.same hf)
  | agg xs => exact .agg rfl (celsAs_free hf)
  | tup xs =>
    refine .tup rfl fun i x y hx hy => ?_
    rw [hx] at hy
    cases hy
    have := List.all_eq_true.1 hf x (List.mem_of_getElem? hx)
    cases x with
    | c x => exact .c (.same this)
    | agg xs => exact .agg rfl (celsAs_free this)
    | tup => cases this

/-- a state told anew, slot by slot -/
def EnvAs (σ : Nat → Nat) (h h' : Heap) (n' : Nat) (e e' : Nat → Option AV) : Prop := ∀ d v', e' d = some v' → ∃ v, e d = some v ∧ AVAs σ h h' n' v v'
theorem EnvAs.nil {e : Nat → Option AV} : EnvAs σ h h' n' e (fun _ => none) := fun d v h => by cases h
theorem EnvAs.cons {e e' : Nat → Option AV} {d : Nat} {v v' : AV} (h1 : e d = some v) (h2 : AVAs σ h h' n' v v') (k : EnvAs σ h h' n' e e') : EnvAs σ h h' n' e (upd e' d (some v')) := by
  intro d' u hu
  by_cases c : d' = d
  · subst c; rw [upd_same] at hu; cases hu; exact ⟨v, h1, h2⟩
  · rw [upd_ne _ _ c] at hu; exact k _ _ hu
def HeapAs (σ : Nat → Nat) (h h' : Heap) (n' : Nat) (H H' : Heap) : Prop := ∀ b x', H' b = some x' → b < n' ∧ ∃ x, H (σ b) = some x ∧ BlkAs σ h h' n' x x'
theorem HeapAs.nil {H : Heap} : HeapAs σ h h' n' H (fun _ => none) := fun d v h => by cases h
theorem HeapAs.cons {H H' : Heap} {b : Nat} {o : Option Blk} (hb : b < n') (h2 : ∀ x', o = some x' → ∃ x, H (σ b) = some x ∧ BlkAs σ h h' n' x x') (k : HeapAs σ h h' n' H H') : HeapAs σ h h' n' H (upd H' b o) := by
  intro d' u hu
  by_cases c : d' = b
  · subst c; rw [upd_same] at hu; exact ⟨hb, h2 u hu⟩
  · rw [upd_ne _ _ c] at hu; exact k _ _ hu
theorem blkAs_free {sz : Nat} {es : List (List Cel)} (hf : ∀ e, e ∈ es → freeL e = true) : BlkAs σ h h' n' (.cells sz es) (.cells sz es) := by
  refine .cells (Nat.le_refl _) fun i e he => ⟨e, he, rfl, celsAs_free (hf e (List.mem_of_getElem? he))⟩
theorem blkAs_take {sz k : Nat} {es : List (List Cel)} (hf : ∀ e, e ∈ es → freeL e = true) : BlkAs σ h h' n' (.cells sz es) (.cells sz (es.take k)) := by
  refine .cells (by simp; omega) fun i e he => ?_
  rw [List.getElem?_take] at he
  split at he
  · exact ⟨e, he, rfl, celsAs_free (hf e (List.mem_of_getElem? he))⟩
  · cases he
/-- one aggregate, cell by cell -/
theorem blkAs_one {sz : Nat} {e e' : List Cel} (hl : e.length = e'.length) (r : ∀ (j : Nat) (x y : Cel), e[j]? = some x → e'[j]? = some y → CelAs σ h h' n' x y) : BlkAs σ h h' n' (.cells sz [e]) (.cells sz [e']) := by
  refine .cells (Nat.le_refl _) fun i q hq => ?_
  cases i with
  | zero => simp only [List.getElem?_cons_zero, Option.some.injEq] at hq; subst hq; exact ⟨e, rfl, hl, r⟩
  | succ i => simp at hq
inductive CelsAs (σ : Nat → Nat) (h h' : Heap) (n' : Nat) : List Cel → List Cel → Prop
  | nil : CelsAs σ h h' n' [] []
  | cons {x y : Cel} {xs ys : List Cel} (r : CelAs σ h h' n' x y) (k : CelsAs σ h h' n' xs ys) : CelsAs σ h h' n' (x :: xs) (y :: ys)
theorem CelsAs.get {xs ys : List Cel} (k : CelsAs σ h h' n' xs ys) : xs.length = ys.length ∧ ∀ (j : Nat) (x y : Cel), xs[j]? = some x → ys[j]? = some y → CelAs σ h h' n' x y := by
  induction k with
  | nil => exact ⟨rfl, fun j x y h => by simp at h⟩
  | cons r k ih =>
    refine ⟨by simp [ih.1], fun j x y hx hy => ?_⟩
    cases j with
    | zero => simp only [List.getElem?_cons_zero, Option.some.injEq] at hx hy; subst hx; subst hy; exact r
    | succ j => exact ih.2 j x y (by simpa using hx) (by simpa using hy)
theorem avAs_agg {xs ys : List Cel} (k : CelsAs σ h h' n' xs ys) : AVAs σ h h' n' (.agg xs) (.agg ys) := .agg k.get.1 k.get.2
theorem blkAs_cells {sz : Nat} {e e' : List Cel} (k : CelsAs σ h h' n' e e') : BlkAs σ h h' n' (.cells sz [e]) (.cells sz [e']) := blkAs_one k.get.1 k.get.2
inductive AVsAs (σ : Nat → Nat) (h h' : Heap) (n' : Nat) : List AV → List AV → Prop
  | nil : AVsAs σ h h' n' [] []
  | cons {x y : AV} {xs ys : List AV} (r : AVAs σ h h' n' x y) (k : AVsAs σ h h' n' xs ys) : AVsAs σ h h' n' (x :: xs) (y :: ys)
theorem AVsAs.get {xs ys : List AV} (k : AVsAs σ h h' n' xs ys) : xs.length = ys.length ∧ ∀ (j : Nat) (x y : AV), xs[j]? = some x → ys[j]? = some y → AVAs σ h h' n' x y := by
  induction k with
  | nil => exact ⟨rfl, fun j x y h => by simp at h⟩
  | cons r k ih =>
    refine ⟨by simp [ih.1], fun j x y hx hy => ?_⟩
    cases j with
    | zero => simp only [List.getElem?_cons_zero, Option.some.injEq] at hx hy; subst hx; subst hy; exact r
    | succ j => exact ih.2 j x y (by simpa using hx) (by simpa using hy)
theorem avAs_tup {xs ys : List AV} (k : AVsAs σ h h' n' xs ys) : AVAs σ h h' n' (.tup xs) (.tup ys) := .tup k.get.1 k.get.2

/-- a list of the call's own, under another name -/
theorem lstC_ren {z : Bool} {b b' sz len : Nat} (hb : b' = σ b) (hn : b < n') : CelAs σ h h' n' (lstC z b' sz len) (lstC z b sz len) := by
  cases z
  · exact .own hb hn (Nat.le_refl _) (Nat.le_refl _)
  · exact .same rfl
theorem lst_ren {z : Bool} {b b' sz len : Nat} (hb : b' = σ b) (hn : b < n') : AVAs σ h h' n' (lstV z b' sz len) (lstV z b sz len) := .c (lstC_ren hb hn)
theorem lst_blk {z : Bool} {sz : Nat} {es : List (List Cel)} (hf : ∀ e, e ∈ es → freeL e = true) : ∀ x', lstB z sz es = some x' → ∃ x, lstB z sz es = some x ∧ BlkAs σ h h' n' x x' := by
  intro x' hx
  cases z
  · cases hx
    exact ⟨_, rfl, blkAs_free hf⟩
  · cases hx
/-- a list that is given up: it is read from now on -/
theorem lstC_ro {z : Bool} {b sz len : Nat} {es : List (List Cel)} (hb : h b = lstB z sz es) (hl : len = es.length) (hz : z = true → es = []) (hn : ∀ b' x, h' b' = some x → σ b' ≠ b) (hf : ∀ e, e ∈ es → freeL e = true) :
    CelAs σ h h' n' (lstC z b sz len) (.ro false sz es) := by
  cases z
  · refine .ownRo ?_ hn hf
    simp only [slContent]
    rw [show h b = some (.cells sz es) from hb]
    simp [hl]
  · have := hz rfl
    subst this
    exact .nil
theorem lst_ro {z : Bool} {b sz len : Nat} {es : List (List Cel)} (hb : h b = lstB z sz es) (hl : len = es.length) (hz : z = true → es = []) (hn : ∀ b' x, h' b' = some x → σ b' ≠ b) (hf : ∀ e, e ∈ es → freeL e = true) :
    AVAs σ h h' n' (lstV z b sz len) (.c (.ro false sz es)) := .c (lstC_ro hb hl hz hn hf)
end

/-- The blocks of a state get the names 0, 1, ..; 'bs': what they were called. -/
theorem weak_canon {k0 : Nat} {e e' : Nat → Option AV} {h h' : Heap} {n n' : Nat} (bs : List Nat) (hn : bs.length = n') (hnd : bs.Nodup) (hk : k0 ≤ n') (hfix : ∀ b, b < k0 → bs.getD b 0 = b)
    (he : EnvAs (fun b => bs.getD b 0) h h' n' e e') (hh : HeapAs (fun b => bs.getD b 0) h h' n' h h') : Weak k0 ⟨e, h, n⟩ ⟨e', h', n'⟩ := by
  refine .one (fun b => bs.getD b 0) ⟨hfix, hk, hh, fun b b' x x' hb hb' e => ?_, he⟩
  have l1 := (hh b x hb).1
  have l2 := (hh b' x' hb').1
  subst hn
  simp only [List.getD, List.getElem?_eq_getElem l1, List.getElem?_eq_getElem l2, Option.getD_some] at e
  exact (List.getElem_inj hnd).1 e

section
variable {P : Program} {Γ : Glob} {k0 : Nat} {K : St → Prop} {l : List (AOper × Nat × Nat)} {env : Nat → Option AV} {h : Heap} {n : Nat}

theorem dweak {s s' : St} (k : Weak k0 s s') (he : evDrawn P Γ k0 K l s') : evDrawn P Γ k0 K l s := by
  cases l with
  | nil => obtain ⟨s'', h1, h2⟩ := he; exact ⟨s'', k.trans h1, h2⟩
  | cons o l =>
    obtain ⟨o, q, i⟩ := o
    cases q with
    | zero => obtain ⟨s'', h1, h2⟩ := he; exact ⟨s'', k.trans h1, h2⟩
    | succ q => obtain ⟨s'', h1, h2⟩ := he; exact ⟨s'', k.trans h1, h2⟩
theorem dnil {s : St} (hk : K s) : evDrawn P Γ k0 K [] s := ⟨s, .refl s, hk⟩

theorem evAct_mono {keep : Bool} {o : AOper} {K K' : St → Prop} {s : St} (hK : ∀ s, K s → K' s) (h : evAct P Γ keep o K s) : evAct P Γ keep o K' s := by
  have call : ∀ {f : FuncId} {first : List AV} {xs : List Arg} {captured : List AV} {s : St} {d : Option Nat}, @CallTo P Γ f first xs captured keep ⟨fun r s' => K (s'.put d (some r))⟩ s → @CallTo P Γ f first xs captured keep ⟨fun r s' => K' (s'.put d (some r))⟩ s := by
    rintro f first xs captured s d ⟨vs, hv, h2, as, a1, a2, a3, h1, R, b1, b2, b3, b4⟩
    refine ⟨vs, hv, h2, as, a1, a2, a3, h1, R, b1, b2, b3, fun r h1' n' hn hR => ?_⟩
    obtain ⟨c1, h3, c2, c3⟩ := b4 r h1' n' hn hR
    exact ⟨c1, h3, c2, hK _ c3⟩
  unfold evAct at h ⊢
  split
  · rename_i f xs e
    simp only [e] at h
    exact call h
  · rename_i g xs e
    simp only [e] at h
    split at h
    · exact ⟨h.1, call h.2⟩
    · exact h.elim
  · rename_i n1 n2
    have hgo : (match step1 Γ s o.op with
        | some v => K (s.put o.dst (some v))
        | none => match step2 Γ s o.op with
          | some (v, h', n') => (keep = true → o.op.keeps = true) ∧ K ((⟨s.env, h', n'⟩ : St).put o.dst v)
          | none => match eqnC Γ s o.op with
            | some (neg, xs) => ∀ b : Bool, (xs ≠ [] → b = neg) → K (s.put o.dst (some (.c (.val (.bool b)))))
            | none => NextTo Γ keep o.dst K s o.op) := by
      cases ho : o.op <;> simp only [ho] at h <;> first | exact absurd ho (n1 _ _) | exact absurd ho (n2 _ _) | exact h
    revert hgo
    generalize step1 Γ s o.op = x1
    generalize step2 Γ s o.op = x2
    generalize eqnC Γ s o.op = x3
    intro hgo
    cases x1 with
    | some v => exact hK _ hgo
    | none =>
      cases x2 with
      | none =>
        cases x3 with
        | none => exact NextTo.mono hK hgo
        | some p => exact fun b hb => hK _ (hgo b hb)
      | some p => exact ⟨hgo.1, hK _ hgo.2⟩

/-- a region in two parts -/
theorem dapp {l2 : List (AOper × Nat × Nat)} : ∀ {l1 : List (AOper × Nat × Nat)} {s : St}, evDrawn P Γ k0 (evDrawn P Γ k0 K l2) l1 s → evDrawn P Γ k0 K (l1 ++ l2) s
  | [], s, ⟨s', h1, h2⟩ => dweak h1 h2
  | (o, 0, i) :: l1, s, ⟨s', h1, h2⟩ => by
    refine ⟨s', h1, ?_⟩
    revert h2
    unfold evLookTo
    split
    · cases step1 Γ s' o.op with
      | some v => exact fun h => dapp h
      | none => exact id
    · split
      · refine fun h => ⟨fun hb => ?_, fun hb => dapp (h.2 hb)⟩
        have := h.1 hb
        revert this
        simp only
        cases step1 Γ s' o.op with
        | some v => exact fun h => dapp h
        | none => exact id
      · exact fun h => dapp h
      · exact id
  | (o, q + 1, i) :: l1, s, ⟨s', h1, h2⟩ => by
    refine ⟨s', h1, ?_⟩
    revert h2
    unfold evOp0
    split
    · exact evAct_mono fun s h => dapp h
    · split
      · exact fun h => ⟨fun hb => evAct_mono (fun s h => dapp h) (h.1 hb), fun hb => dapp (h.2 hb)⟩
      · exact fun h => dapp h
      · exact id

/-- an operation that is done -/
def doneAt (P : Program) (Γ : Glob) (q : Nat) (d : Option Nat) (o : AOp) (K : St → Prop) (s : St) : Prop := match q with
  | 0 => ∃ v, step1 Γ s o = some v ∧ K (s.put d (some v))
  | q + 1 => evAct P Γ (q == 0) ⟨d, o, none⟩ K s

theorem evAct_guard {keep : Bool} {d : Option Nat} {o : AOp} {g : Option (Nat × Bool)} {K : St → Prop} {s : St} (h : evAct P Γ keep ⟨d, o, none⟩ K s) : evAct P Γ keep ⟨d, o, g⟩ K s := h

theorem un {d : Option Nat} {o : AOp} {q i : Nat} {s : St} (hd : doneAt P Γ q d o (evDrawn P Γ k0 K l) s) : evDrawn P Γ k0 K ((⟨d, o, none⟩, q, i) :: l) s := by
  cases q with
  | zero =>
    obtain ⟨v, h1, h2⟩ := hd
    refine ⟨s, .refl s, ?_⟩
    unfold evLookTo
    simp only [h1]
    exact h2
  | succ q => exact ⟨s, .refl s, hd⟩

theorem gt {d : Option Nat} {o : AOp} {q i g : Nat} {w : Bool} {s : St} (hg : s.env g = some (.c (.val (.bool w)))) (hd : doneAt P Γ q d o (evDrawn P Γ k0 K l) s) : evDrawn P Γ k0 K ((⟨d, o, some (g, w)⟩, q, i) :: l) s := by
  cases q with
  | zero =>
    obtain ⟨v, h1, h2⟩ := hd
    refine ⟨s, .refl s, ?_⟩
    unfold evLookTo
    simp only [hg]
    refine ⟨fun _ => ?_, fun h => absurd rfl h⟩
    show (match step1 Γ s o with
      | some v => evDrawn P Γ k0 K l (s.put d (some v))
      | none => False)
    rw [h1]
    exact h2
  | succ q =>
    refine ⟨s, .refl s, ?_⟩
    unfold evOp0
    simp only [hg]
    exact ⟨fun _ => hd, fun h => absurd rfl h⟩

theorem gs {d : Nat} {o : AOp} {q i g : Nat} {w b : Bool} (hg : env g = some (.c (.val (.bool b)))) (hb : (b == w) = false) (hk : evDrawn P Γ k0 K l ⟨upd env d (some (.tup [])), h, n⟩) : evDrawn P Γ k0 K ((⟨some d, o, some (g, w)⟩, q, i) :: l) ⟨env, h, n⟩ := by
  have hne : b ≠ w := by simpa using hb
  cases q with
  | zero =>
    refine ⟨_, .refl _, ?_⟩
    unfold evLookTo
    simp only [hg]
    exact ⟨fun h => absurd h hne, fun _ => hk⟩
  | succ q =>
    refine ⟨_, .refl _, ?_⟩
    unfold evOp0
    simp only [hg]
    exact ⟨fun h => absurd h hne, fun _ => hk⟩
theorem gsn {o : AOp} {q i g : Nat} {w b : Bool} (hg : env g = some (.c (.val (.bool b)))) (hb : (b == w) = false) (hk : evDrawn P Γ k0 K l ⟨env, h, n⟩) : evDrawn P Γ k0 K ((⟨none, o, some (g, w)⟩, q, i) :: l) ⟨env, h, n⟩ := by
  have hne : b ≠ w := by simpa using hb
  cases q with
  | zero =>
    refine ⟨_, .refl _, ?_⟩
    unfold evLookTo
    simp only [hg]
    exact ⟨fun h => absurd h hne, fun _ => hk⟩
  | succ q =>
    refine ⟨_, .refl _, ?_⟩
    unfold evOp0
    simp only [hg]
    exact ⟨fun h => absurd h hne, fun _ => hk⟩
theorem gu {d : Nat} {o : AOp} {q i g : Nat} {w : Bool} (hg : env g = some (.tup [])) (hk : evDrawn P Γ k0 K l ⟨upd env d (some (.tup [])), h, n⟩) : evDrawn P Γ k0 K ((⟨some d, o, some (g, w)⟩, q, i) :: l) ⟨env, h, n⟩ := by
  cases q with
  | zero =>
    refine ⟨_, .refl _, ?_⟩
    unfold evLookTo
    simp only [hg]
    exact hk
  | succ q =>
    refine ⟨_, .refl _, ?_⟩
    unfold evOp0
    simp only [hg]
    exact hk

/-- an operation that only looks -/
theorem a1 {d : Nat} {o : AOp} {q : Nat} {K : St → Prop} {v : AV} (hs : step1 Γ ⟨env, h, n⟩ o = some v) (hk : K ⟨upd env d (some v), h, n⟩) : doneAt P Γ q (some d) o K ⟨env, h, n⟩ := by
  cases q with
  | zero => exact ⟨v, hs, hk⟩
  | succ q =>
    have n1 : ∀ f xs, o ≠ .call f xs := by rintro f xs rfl; cases hs
    have n2 : ∀ g xs, o ≠ .callv g xs := by rintro g xs rfl; cases hs
    show evAct P Γ (q == 0) ⟨some d, o, none⟩ K _
    unfold evAct
    split
    · rename_i e; exact absurd e (n1 _ _)
    · rename_i e; exact absurd e (n2 _ _)
    · simp only [hs]; exact hk
/-- an operation that makes or changes memory -/
theorem a2 {d : Option Nat} {o : AOp} {q : Nat} {K : St → Prop} {v : Option AV} {h' : Heap} {n' : Nat} (h1 : step1 Γ ⟨env, h, n⟩ o = none) (hs : step2 Γ ⟨env, h, n⟩ o = some (v, h', n')) (hq : (q == 0) = true → o.keeps = true)
    (hk : K ((⟨env, h', n'⟩ : St).put d v)) : doneAt P Γ (q + 1) d o K ⟨env, h, n⟩ := by
  have n1 : ∀ f xs, o ≠ .call f xs := by rintro f xs rfl; cases hs
  have n2 : ∀ g xs, o ≠ .callv g xs := by rintro g xs rfl; cases hs
  show evAct P Γ (q == 0) ⟨d, o, none⟩ K _
  unfold evAct
  split
  · rename_i e; exact absurd e (n1 _ _)
  · rename_i e; exact absurd e (n2 _ _)
  · simp only [h1, hs]; exact ⟨hq, hk⟩
/-- a list that is only read, held against nil -/
theorem a1n {α : Type} {e : α → List Cel} {xs : List α} {d q sz : Nat} {neg : Bool} {x : Arg} {K : St → Prop} (hx : x.get Γ env = some (.c (.ro false sz (xs.map e))))
    (h1 : xs = [] → K ⟨upd env d (some (.c (.val (.bool (!neg))))), h, n⟩) (h2 : K ⟨upd env d (some (.c (.val (.bool neg)))), h, n⟩) : doneAt P Γ (q + 1) (some d) (.eqn neg x) K ⟨env, h, n⟩ := by
  show evAct P Γ (q == 0) ⟨some d, .eqn neg x, none⟩ K _
  have s1 : step1 Γ ⟨env, h, n⟩ (.eqn neg x) = none := by simp only [step1, hx]
  have s2 : step2 Γ ⟨env, h, n⟩ (.eqn neg x) = none := rfl
  have s3 : eqnC Γ ⟨env, h, n⟩ (.eqn neg x) = some (neg, xs.map e) := by simp only [eqnC, hx]
  unfold evAct
  simp only [s1, s2, s3]
  intro b hb
  by_cases hxs : xs = []
  · by_cases hbn : b = neg
    · subst hbn; exact h2
    · have : b = !neg := by cases b <;> cases neg <;> simp_all
      subst this
      exact h1 hxs
  · have : b = neg := hb (by simpa using hxs)
    subst this
    exact h2
/-- a call -/
theorem ac {d : Nat} {f : FuncId} {xs : List Arg} {q : Nat} {K : St → Prop} {s : St} (hc : @CallTo P Γ f [] xs [] (q == 0) ⟨fun r s' => K (s'.put (some d) (some r))⟩ s) : doneAt P Γ (q + 1) (some d) (.call f xs) K s := hc
theorem acv {d : Nat} {g : Arg} {f : FuncId} {first captured : List Cel} {xs : List Arg} {q : Nat} {K : St → Prop} {s : St} (hg : g.get Γ s.env = some (.c (.fn (.func f) first captured))) (hok : okFn P f = true)
    (hc : @CallTo P Γ f (first.map .c) xs (captured.map .c) (q == 0) ⟨fun r s' => K (s'.put (some d) (some r))⟩ s) : doneAt P Γ (q + 1) (some d) (.callv g xs) K s := by
  unfold doneAt evAct
  simp only [hg]
  exact ⟨hok, hc⟩

/-- a Bool that is known from here on -/
theorem split2 {d : Nat} {c : Bool} (ht : c = true → evDrawn P Γ k0 K l ⟨upd env d (some (.c (.val (.bool true)))), h, n⟩) (hf : c = false → evDrawn P Γ k0 K l ⟨upd env d (some (.c (.val (.bool false)))), h, n⟩) :
    evDrawn P Γ k0 K l ⟨upd env d (some (.c (.val (.bool c)))), h, n⟩ := by
  cases c
  · exact hf rfl
  · exact ht rfl
end

/-! ### calls -/
theorem avmap_free {ρ : Nat → Nat} {r : AV} (hr : r.free = true) : r.map ρ = r := by
  cases r with
  | c x => exact congrArg AV.c (free_map hr)
  | agg xs => exact congrArg AV.agg (freeL_map hr)
  | tup xs =>
    refine congrArg AV.tup ?_
    rw [AV.mapL_eq]
    refine (List.map_congr_left (g := id) fun x hx => ?_).trans (List.map_id _)
    have := List.all_eq_true.1 hr x hx
    cases x with
    | c x => exact congrArg AV.c (free_map this)
    | agg xs => exact congrArg AV.agg (freeL_map this)
    | tup => cases this
section
variable {P : Program} {Γ : Glob} {env : Nat → Option AV} {h : Heap} {n : Nat} {f : FuncId} {first captured : List AV} {xs : List Arg} {keep : Bool} {K : Kont}

theorem merge_none {h1 : Heap} (hb : ∀ b x, h b = some x → b < n) : merge n h (fun _ => none) (fun _ => none) = h := by
  funext b
  simp only [merge]
  cases e : h b with
  | none => split <;> simp_all
  | some x => simp [hb b x e]

theorem cpure {vs : List AV} {r : AV} (hc : CPure P Γ f (first ++ vs ++ captured) r) (hv : xs.mapM (·.get Γ env) = some vs) (hf : (first ++ vs ++ captured).all AV.free = true) (hr : r.free = true) (hk : K.go r ⟨env, h, n⟩) :
    CallTo P Γ f first xs captured keep ⟨env, h, n⟩ := by
  have hcr := ACalls.ren (bs := []) (n := n) (h1 := fun _ => none) (as := first ++ vs ++ captured) hc List.nodup_nil (fun a h => by cases h) rfl (fun i x y hx hy => by
    rw [hx] at hy; cases hy
    exact avAs_free (List.all_eq_true.1 hf x (List.mem_of_getElem? hx))) (fun b x hb => by cases hb)
  refine ⟨vs, hv, h, first ++ vs ++ captured, fun b x hb => hb, rfl, fun i x y h1 h2 => .inl (by rw [h1] at h2; exact Option.some.inj h2), fun _ => none, _, fun b x hb => (by cases hb), fun _ => rfl, hcr, ?_⟩
  rintro ra h1' na hn ⟨r0, h0, n0, _, ⟨rfl, rfl, rfl⟩, rfl, rfl, rfl⟩
  refine ⟨.inl rfl, h, fun hb b x hx => ?_, ?_⟩
  · simp [merge, hmap, hb b x hx, hx]
  · rw [avmap_free hr]
    exact hk
end


/-! ### the shallow side -/
theorem ifT {α : Type} {c : Bool} {a b x : α} (hc : c = true) (h : (if c = true then a else b) = x) : a = x := by rw [if_pos hc] at h; exact h
theorem ifF {α : Type} {c : Bool} {a b x : α} (hc : c = false) (h : (if c = true then a else b) = x) : b = x := by rw [if_neg (by rw [hc]; exact Bool.false_ne_true)] at h; exact h
theorem bnd {α β : Type} {a : Option α} {F : α → Option β} {o : β} (h : a.bind F = some o) : ∃ x, a = some x ∧ F x = some o := Option.bind_eq_some_iff.1 h
def letIn {α β : Type} (e : α) (F : α → β) : β := F e
theorem letAt {α β : Type} {e x : α} {F : α → β} {o : β} (hx : x = e) (h : letIn e F = o) : F x = o := by subst hx; exact h

/-! ### what operations give -/
section
variable {Γ : Glob} {h : Heap} {n : Nat} {env : Nat → Option AV} {x y i a : Arg} {sz : Nat} {α : Type} {e : α → List Cel} {xs ys : List α}

theorem s_len {nl : Bool} (hx : x.get Γ env = some (.c (.ro nl sz (xs.map e)))) : step1 Γ ⟨env, h, n⟩ (.len x) = some (I xs.length) := by
  simp [step1, hx]
theorem s_lenL {z : Bool} {b len : Nat} (hx : x.get Γ env = some (lstV z b sz len)) (hz : z = true → len = 0) : step1 Γ ⟨env, h, n⟩ (.len x) = some (I len) := by
  cases z
  · have hx' : x.get Γ env = some (.c (.own b sz 0 len len)) := hx
    simp [step1, hx']
  · have hx' : x.get Γ env = some (.c (.ro true sz [])) := hx
    simp [step1, hx', hz rfl]
theorem s_iaddr {nl : Bool} {k : IntKind} {j : Int} {q : α} (hx : x.get Γ env = some (.c (.ro nl sz (xs.map e)))) (hi : i.get Γ env = some (.c (.val (.int k j)))) (ha : at? xs j = some q) :
    step1 Γ ⟨env, h, n⟩ (.iaddr sz x i) = some (.c (.rop (e q))) := by
  obtain ⟨h0, h1⟩ := at_spec ha
  simp [step1, hx, getI, hi, AV.int?, h0, h1]
theorem z_false {z : Bool} {j : Int} {q : α} (hz : z = true → xs = []) (ha : at? xs j = some q) : z = false := by
  cases z
  · rfl
  · have := hz rfl
    subst this
    have := (at_spec ha).2
    simp at this
theorem s_iaddrL {z : Bool} {b : Nat} {k : IntKind} {j : Int} {q : α} (hx : x.get Γ env = some (lstV z b sz xs.length)) (hi : i.get Γ env = some (.c (.val (.int k j)))) (hz : z = true → xs = []) (ha : at? xs j = some q) :
    step1 Γ ⟨env, h, n⟩ (.iaddr sz x i) = some (.c (.ref b sz j.toNat 0)) := by
  have := z_false hz ha
  subst this
  obtain ⟨h0, h1⟩ := at_spec ha
  have hlt : j.toNat < xs.length := (List.getElem?_eq_some_iff.1 h1).1
  have hlt' : j < (xs.length : Int) := by omega
  have hx' : x.get Γ env = some (.c (.own b sz 0 xs.length xs.length)) := hx
  simp [step1, hx', getI, hi, AV.int?, h0, hlt']
theorem s_loadL {z : Bool} {b k off m : Nat} {agg : Bool} {j : Int} {q : α} {v : AV} (hx : a.get Γ env = some (.c (.ref b sz k off))) (hb : h b = lstB z sz (xs.map e)) (hz : z = true → xs = []) (ha : at? xs j = some q) (hk : k = j.toNat) (hv : rdC agg m ((e q).drop off) = some v) :
    step1 Γ ⟨env, h, n⟩ (.load agg m a) = some v := by
  have := z_false hz ha
  subst this
  subst hk
  obtain ⟨h0, h1⟩ := at_spec ha
  have hb' : h b = some (.cells sz (xs.map e)) := hb
  simp [step1, hx, hb', h1, hv]
theorem s_storeL {z : Bool} {b k off m : Nat} {j : Int} {q q' : α} {l : List Cel} (hx : a.get Γ env = some (.c (.ref b sz k off))) (hb : h b = lstB z sz (xs.map e)) (hz : z = true → xs = []) (ha : at? xs j = some q) (hk : k = j.toNat)
    (hl : cellsOfArg Γ env x = some l) (hm : l.length = m) (hle : off + m ≤ (e q).length) (hq : (e q).take off ++ l ++ (e q).drop (off + m) = e q') :
    step2 Γ ⟨env, h, n⟩ (.store m a x) = some (none, upd h b (lstB z sz ((xs.set j.toNat q').map e)), n) := by
  have := z_false hz ha
  subst this
  subst hk
  obtain ⟨h0, h1⟩ := at_spec ha
  have hb' : h b = some (.cells sz (xs.map e)) := hb
  simp only [step2, hx, hl, hb', List.getElem?_map, h1, Option.map_some, hm, hle, and_self, if_true, hq, List.map_set]
  rfl
theorem set_nil {z : Bool} {k : Nat} {q : α} (hz : z = true → xs = []) : z = true → xs.set k q = [] := fun h => by rw [hz h]; rfl
theorem s_idxS {s : List UInt8} {k : IntKind} {j : Int} {c : UInt8} (hx : x.get Γ env = some (.c (.str s))) (hi : i.get Γ env = some (.c (.val (.int k j)))) (ha : at? s j = some c) :
    step1 Γ ⟨env, h, n⟩ (.idxS x i) = some (.c (.val (.int .u8 c.toNat))) := by
  obtain ⟨h0, h1⟩ := at_spec ha
  simp [step1, hx, getI, hi, AV.int?, h0, h1]
theorem s_cat {s t r : List UInt8} (hx : x.get Γ env = some (.c (.str s))) (hy : y.get Γ env = some (.c (.str t))) (hc : cat? s t = some r) : step1 Γ ⟨env, h, n⟩ (.bin .add x y) = some (.c (.str r)) := by
  obtain ⟨h1, rfl⟩ := cat_spec hc
  simp [step1, hx, hy, binS, h1]

/-- a bound of a cut, as a number -/
def bnI (Γ : Glob) (env : Nat → Option AV) (d : Nat) : Option Arg → Option Int
  | none => some d
  | some x => getI Γ env x
theorem bound_of {d hi : Nat} {o : Option Arg} {j : Int} (hd : d ≤ hi) (hb : bnI Γ env d o = some j) (h0 : 0 ≤ j) (h1 : j ≤ hi) : boundI Γ env d hi o = some j.toNat := by
  cases o with
  | none => simp only [bnI, Option.some.injEq] at hb; subst hb; simp [boundI]
  | some x => simp only [bnI] at hb; simp [boundI, hb, h0, h1]
theorem s_slStr {s r : List UInt8} {lo hi : Option Arg} {j k : Int} (hx : x.get Γ env = some (.c (.str s))) (hlo : bnI Γ env 0 lo = some j) (hhi : bnI Γ env s.length hi = some k) (hs : sub? s j k = some r) :
    step1 Γ ⟨env, h, n⟩ (.slStr x lo hi) = some (.c (.str r)) := by
  obtain ⟨h0, h1, h2, rfl⟩ := sub_spec hs
  simp only [step1, hx, bound_of (Nat.le_refl _) hhi (by omega) h2, bound_of (hi := k.toNat) (Nat.zero_le _) hlo h0 (by omega)]
theorem s_slSl {nl : Bool} {r : List α} {lo hi : Option Arg} {j k : Int} (hx : x.get Γ env = some (.c (.ro nl sz (xs.map e)))) (hlo : bnI Γ env 0 lo = some j) (hhi : bnI Γ env xs.length hi = some k) (hs : sub? xs j k = some r) :
    step1 Γ ⟨env, h, n⟩ (.slSl sz x lo hi none) = some (.c (.ro nl sz (r.map e))) := by
  obtain ⟨h0, h1, h2, rfl⟩ := sub_spec hs
  have hb : boundI Γ env (xs.map e).length (xs.map e).length hi = some k.toNat := by rw [List.length_map]; exact bound_of (Nat.le_refl _) hhi (by omega) h2
  simp only [step1, hx, hb, bound_of (hi := k.toNat) (Nat.zero_le _) hlo h0 (by omega), decide_true, Bool.true_or, if_true, List.map_drop, List.map_take]
theorem slc_ro {nl : Bool} : slContent h sz (.ro nl sz (xs.map e)) = some (xs.map e) := by simp [slContent]
theorem slc_lst {z : Bool} {b len : Nat} {es : List (List Cel)} (hb : h b = lstB z sz es) (hl : len = es.length) (hz : z = true → es = []) : slContent h sz (lstC z b sz len) = some es := by
  cases z
  · have hb' : h b = some (.cells sz es) := hb
    simp [slContent, lstC, hb', hl]
  · simp [slContent, lstC, hz rfl]
theorem s_app {z : Bool} {b bytes : Nat} {c : Cel} {r : List α} (hx : x.get Γ env = some (lstV z b sz xs.length)) (hb : h b = lstB z sz (xs.map e)) (hz : z = true → xs = []) (hn : h n = none)
    (hy : y.get Γ env = some (.c c)) (hc : slContent h sz c = some (ys.map e)) (ha : app? bytes xs ys = some r) :
    step2 Γ ⟨env, h, n⟩ (.app sz bytes x y) = some (some (lstV (z && ys.isEmpty) n sz r.length), upd (upd h b none) n (lstB (z && ys.isEmpty) sz (r.map e)), n + 1) := by
  obtain ⟨h1, rfl⟩ := app_spec ha
  cases z
  · have hb' : h b = some (.cells sz (xs.map e)) := hb
    have hx' : x.get Γ env = some (.c (.own b sz 0 xs.length xs.length)) := hx
    simp only [step2, hx', hy, hc, appendC, hb', List.length_map, Nat.le_refl, and_true, true_and, h1, if_true, Bool.false_and, List.length_append, lstB, List.map_append]
    rw [List.take_of_length_le (by simp)]
    rfl
  · have hx0 := hz rfl
    subst hx0
    have hb' : h b = none := hb
    have hx' : x.get Γ env = some (.c (.ro true sz [])) := hx
    simp only [step2, hx', hy, hc]
    cases ys with
    | nil =>
      simp only [lstC, cond_true, appendC, List.map_nil, List.isEmpty_nil, if_true, Bool.and_self, List.append_nil, lstB]
      congr 3
      funext d
      by_cases hd : d = n
      · subst hd; rw [upd_same, hn]
      · rw [upd_ne _ _ hd]
        by_cases hd2 : d = b
        · subst hd2; rw [upd_same, hb']
        · rw [upd_ne _ _ hd2]
    | cons q ys =>
      simp only [List.length_nil, Nat.zero_add] at h1
      simp only [lstC, cond_true, appendC, List.map_cons, List.isEmpty_cons, Bool.false_eq_true, if_false, Bool.and_false, cond_false, List.nil_append, lstB, if_true, freshC, List.length_cons, List.length_map]
      rw [if_pos (by simpa using h1)]
      congr 3
      funext d
      by_cases hd : d = n
      · subst hd; rw [upd_same, upd_same]
      · rw [upd_ne _ _ hd, upd_ne _ _ hd]
        by_cases hd2 : d = b
        · subst hd2; rw [upd_same, hb']
        · rw [upd_ne _ _ hd2]
theorem app_nil {z : Bool} {bytes : Nat} {r : List α} (hz : z = true → xs = []) (ha : app? bytes xs ys = some r) : (z && ys.isEmpty) = true → r = [] := by
  intro hq
  simp only [Bool.and_eq_true, List.isEmpty_iff] at hq
  rw [(app_spec ha).2, hz hq.1, hq.2]
  rfl
end

section
variable {P : Program} {Γ : Glob} {env : Nat → Option AV} {h : Heap} {n : Nat} {f : FuncId} {xs : List Arg} {q d : Nat} {K : St → Prop}
theorem a2v {o : AOp} {v : AV} {h' : Heap} {n' : Nat} (h1 : step1 Γ ⟨env, h, n⟩ o = none) (hs : step2 Γ ⟨env, h, n⟩ o = some (some v, h', n')) (hq : (q == 0) = true → o.keeps = true) (hk : K ⟨upd env d (some v), h', n'⟩) :
    doneAt P Γ (q + 1) (some d) o K ⟨env, h, n⟩ := a2 h1 hs hq hk
theorem a2n {o : AOp} {h' : Heap} {n' : Nat} (h1 : step1 Γ ⟨env, h, n⟩ o = none) (hs : step2 Γ ⟨env, h, n⟩ o = some (none, h', n')) (hq : (q == 0) = true → o.keeps = true) (hk : K ⟨env, h', n'⟩) :
    doneAt P Γ (q + 1) none o K ⟨env, h, n⟩ := a2 h1 hs hq hk
/-- a call of what only reckons -/
theorem ac_pure {as : List AV} {r : AV} (hc : CPure P Γ f as r) (hv : xs.mapM (·.get Γ env) = some as) (hf : as.all AV.free = true) (hr : r.free = true) (hk : K ⟨upd env d (some r), h, n⟩) : doneAt P Γ (q + 1) (some d) (.call f xs) K ⟨env, h, n⟩ :=
  ac (cpure (vs := as) (by rw [List.nil_append, List.append_nil]; exact hc) hv (by rw [List.nil_append, List.append_nil]; exact hf) hr hk)
end

end Go.Proofs.YtolmbcngghkfiaaDoorBv
