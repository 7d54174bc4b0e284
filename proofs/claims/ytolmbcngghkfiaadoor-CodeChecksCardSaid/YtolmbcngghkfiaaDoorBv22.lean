/- The calculus: words and steps that the printed walks use. It proves nothing of any program. -/
import Derived.Test.YtolmbcngghkfiaaDoorBv21
import Derived.KernelRfl
namespace Go.Proofs.YtolmbcngghkfiaaDoorBv
open Go
set_option linter.unusedVariables false
set_option linter.unusedSimpArgs false

/-! ### how values lie in cells -/
def eK (k : IntKind) (n : Int) : List Cel := [.val (.int k n)]
def eI (n : Int) : List Cel := [.val (.int .i64 n)]
def eB (b : Bool) : List Cel := [.val (.bool b)]
def eStr (s : List UInt8) : List Cel := [.str s]
def eSl {α : Type} (sz : Nat) (f : α → List Cel) (xs : List α) : List Cel := [.ro false sz (xs.map f)]
structure Ar2 (α : Type) where
  a0 : α
  a1 : α
def eA2 {α : Type} (f : α → List Cel) (x : Ar2 α) : List Cel := f x.a0 ++ f x.a1
structure Ar4 (α : Type) where
  a0 : α
  a1 : α
  a2 : α
  a3 : α
def eA4 {α : Type} (f : α → List Cel) (x : Ar4 α) : List Cel := f x.a0 ++ f x.a1 ++ f x.a2 ++ f x.a3

/-! ### numbers -/
def wr (k : IntKind) (n : Int) : Int := k.wrap n
def mx (x y : Int) : Int := if y > x then y else x
def mn (x y : Int) : Int := if y < x then y else x
def shl (k : IntKind) (x : Int) (n : Nat) : Int := k.wrap (x * 2 ^ (min n k.bits))
def shr (k : IntKind) (x : Int) (n : Nat) : Int := x.fdiv (2 ^ (min n k.bits))
def quo? (k : IntKind) (x y : Int) : Option Int := if y = 0 then none else some (k.wrap (x.tdiv y))
def rem? (k : IntKind) (x y : Int) : Option Int := if y = 0 then none else some (x.tmod y)
def shl? (k : IntKind) (x y : Int) : Option Int := if y < 0 then none else some (shl k x y.toNat)
def shr? (k : IntKind) (x y : Int) : Option Int := if y < 0 then none else some (shr k x y.toNat)

section
variable {Γ : Glob} {h : Heap} {n : Nat} {env : Nat → Option AV} {x y : Arg} {k k' : IntKind} {a b r : Int}
theorem s_quo (hx : x.get Γ env = some (.c (.val (.int k a)))) (hy : y.get Γ env = some (.c (.val (.int k b)))) (hr : quo? k a b = some r) : step1 Γ ⟨env, h, n⟩ (.bin .quo x y) = some (.c (.val (.int k r))) := by
  unfold quo? at hr
  split at hr
  · cases hr
  · rename_i hb
    cases hr
    simp [step1, hx, hy, binI, hb]
theorem s_rem (hx : x.get Γ env = some (.c (.val (.int k a)))) (hy : y.get Γ env = some (.c (.val (.int k b)))) (hr : rem? k a b = some r) : step1 Γ ⟨env, h, n⟩ (.bin .rem x y) = some (.c (.val (.int k r))) := by
  unfold rem? at hr
  split at hr
  · cases hr
  · rename_i hb
    cases hr
    simp [step1, hx, hy, binI, hb]
theorem s_shl (hx : x.get Γ env = some (.c (.val (.int k a)))) (hy : y.get Γ env = some (.c (.val (.int k' b)))) (hr : shl? k a b = some r) : step1 Γ ⟨env, h, n⟩ (.bin .shl x y) = some (.c (.val (.int k r))) := by
  unfold shl? at hr
  split at hr
  · cases hr
  · rename_i hb
    cases hr
    simp [step1, hx, hy, binI, hb, shl]
theorem s_shr (hx : x.get Γ env = some (.c (.val (.int k a)))) (hy : y.get Γ env = some (.c (.val (.int k' b)))) (hr : shr? k a b = some r) : step1 Γ ⟨env, h, n⟩ (.bin .shr x y) = some (.c (.val (.int k r))) := by
  unfold shr? at hr
  split at hr
  · cases hr
  · rename_i hb
    cases hr
    simp [step1, hx, hy, binI, hb, shr]
end

section
variable {Γ : Glob} {h : Heap} {n : Nat} {env : Nat → Option AV} {x y z : Arg} {k k' k'' : IntKind} {a b c : Int}
theorem s_mx (hx : x.get Γ env = some (.c (.val (.int k a)))) (hy : y.get Γ env = some (.c (.val (.int k' b)))) : step1 Γ ⟨env, h, n⟩ (.mm true [x, y]) = some (.c (.val (.int k (mx a b)))) := by
  simp only [step1, List.foldl_cons, List.foldl_nil, hx, hy, Option.bind_some, valOf, mm2]
  rfl
theorem s_mn (hx : x.get Γ env = some (.c (.val (.int k a)))) (hy : y.get Γ env = some (.c (.val (.int k' b)))) : step1 Γ ⟨env, h, n⟩ (.mm false [x, y]) = some (.c (.val (.int k (mn a b)))) := by
  simp only [step1, List.foldl_cons, List.foldl_nil, hx, hy, Option.bind_some, valOf, mm2]
  rfl
theorem s_mx3 (hx : x.get Γ env = some (.c (.val (.int k a)))) (hy : y.get Γ env = some (.c (.val (.int k' b)))) (hz : z.get Γ env = some (.c (.val (.int k'' c)))) :
    step1 Γ ⟨env, h, n⟩ (.mm true [x, y, z]) = some (.c (.val (.int k (mx (mx a b) c)))) := by
  simp only [step1, List.foldl_cons, List.foldl_nil, hx, hy, hz, Option.bind_some, valOf, mm2]
  rfl
theorem s_mn3 (hx : x.get Γ env = some (.c (.val (.int k a)))) (hy : y.get Γ env = some (.c (.val (.int k' b)))) (hz : z.get Γ env = some (.c (.val (.int k'' c)))) :
    step1 Γ ⟨env, h, n⟩ (.mm false [x, y, z]) = some (.c (.val (.int k (mn (mn a b) c)))) := by
  simp only [step1, List.foldl_cons, List.foldl_nil, hx, hy, hz, Option.bind_some, valOf, mm2]
  rfl
end

/-! ### an element of an array, by a number that is not known -/
inductive Sel {α : Type} (f : Nat → Option AV) (v : α → AV) : Nat → List α → Prop
  | nil {i : Nat} : Sel f v i []
  | cons {i : Nat} {a : α} {L : List α} (h : f i = some (v a)) (k : Sel f v (i + 1) L) : Sel f v i (a :: L)
theorem Sel.get {α : Type} {f : Nat → Option AV} {v : α → AV} {i : Nat} {L : List α} (s : Sel f v i L) : ∀ (j : Nat) (q : α), L[j]? = some q → f (i + j) = some (v q) := by
  induction s with
  | nil => intro j q h; simp at h
  | cons h _ ih =>
    intro j q hq
    cases j with
    | zero => simp only [List.getElem?_cons_zero, Option.some.injEq] at hq; subst hq; exact h
    | succ j =>
      have := ih j q (by simpa using hq)
      rwa [Nat.add_assoc, Nat.add_comm 1 j] at this
section
variable {Γ : Glob} {h : Heap} {n : Nat} {env : Nat → Option AV} {x i a : Arg} {k : IntKind} {j : Int} {α : Type} {L : List α} {q : α} {v : α → AV} {agg : Bool} {m : Nat}
theorem at_lt (ha : at? L j = some q) : 0 ≤ j ∧ j < L.length ∧ j.toNat < L.length := by
  obtain ⟨h0, h1⟩ := at_spec ha
  have := (List.getElem?_eq_some_iff.1 h1).1
  omega
theorem s_idxA {sz len : Nat} {cs : List Cel} (hx : x.get Γ env = some (.agg cs)) (hi : i.get Γ env = some (.c (.val (.int k j)))) (hl : L.length = len) (hs : Sel (fun i => rdC agg sz (cs.drop (i * sz))) v 0 L) (ha : at? L j = some q) :
    step1 Γ ⟨env, h, n⟩ (.idxA agg len sz x i) = some (v q) := by
  obtain ⟨h0, h1, h2⟩ := at_lt ha
  subst hl
  have := hs.get j.toNat q (at_spec ha).2
  simp only [Nat.zero_add] at this
  simp [step1, hx, getI, hi, AV.int?, h0, h1, this]
theorem s_iaddrA {b s off sz len : Nat} (hx : x.get Γ env = some (.c (.ref b s 0 off))) (hi : i.get Γ env = some (.c (.val (.int k j)))) (hl : L.length = len) (ha : at? L j = some q) :
    step1 Γ ⟨env, h, n⟩ (.iaddrA len sz x i) = some (.c (.ref b s 0 (off + j.toNat * sz))) := by
  obtain ⟨h0, h1, h2⟩ := at_lt ha
  subst hl
  simp [step1, hx, getI, hi, AV.int?, h0, h1]
theorem s_iaddrAr {cs : List Cel} {sz len : Nat} (hx : x.get Γ env = some (.c (.rop cs))) (hi : i.get Γ env = some (.c (.val (.int k j)))) (hl : L.length = len) (ha : at? L j = some q) :
    step1 Γ ⟨env, h, n⟩ (.iaddrA len sz x i) = some (.c (.rop (cs.drop (j.toNat * sz)))) := by
  obtain ⟨h0, h1, h2⟩ := at_lt ha
  subst hl
  simp [step1, hx, getI, hi, AV.int?, h0, h1]
theorem s_loadA {b s off sz o2 : Nat} {cs : List Cel} (hx : a.get Γ env = some (.c (.ref b s 0 (off + j.toNat * sz + o2)))) (hb : h b = some (.cells s [cs])) (hs : Sel (fun i => rdC agg m (cs.drop (off + i * sz + o2))) v 0 L) (ha : at? L j = some q) :
    step1 Γ ⟨env, h, n⟩ (.load agg m a) = some (v q) := by
  have := hs.get j.toNat q (at_spec ha).2
  simp only [Nat.zero_add] at this
  simp [step1, hx, hb, this]
theorem s_loadAr {sz o2 : Nat} {cs : List Cel} (hx : a.get Γ env = some (.c (.rop ((cs.drop (j.toNat * sz)).drop o2)))) (hs : Sel (fun i => rdC agg m (cs.drop (i * sz + o2))) v 0 L) (ha : at? L j = some q) :
    step1 Γ ⟨env, h, n⟩ (.load agg m a) = some (v q) := by
  have := hs.get j.toNat q (at_spec ha).2
  simp only [Nat.zero_add] at this
  simp only [step1, hx, List.drop_drop]
  exact this
end

/-! ### small words of the steps -/
theorem fr_map {α : Type} {f : α → List Cel} {xs : List α} (hf : ∀ x, freeL (f x) = true) : ∀ e, e ∈ xs.map f → freeL e = true := by
  intro e he
  obtain ⟨x, _, rfl⟩ := List.mem_map.1 he
  exact hf x
theorem map_nil_of {α β : Type} {f : α → β} {z : Bool} {xs : List α} (hz : z = true → xs = []) : z = true → xs.map f = [] := fun h => by rw [hz h]; rfl
theorem len_nil_of {α : Type} {z : Bool} {xs : List α} (hz : z = true → xs = []) : z = true → xs.length = 0 := fun h => by rw [hz h]; rfl
def HLt (n : Nat) (h : Heap) : Prop := ∀ b x, h b = some x → b < n
theorem HLt.nil {n : Nat} : HLt n (fun _ => none) := fun b x h => by cases h
theorem HLt.cons {n b : Nat} {o : Option Blk} {h : Heap} (hb : b < n) (k : HLt n h) : HLt n (upd h b o) := by
  intro d x hx
  by_cases c : d = b
  · subst c; exact hb
  · rw [upd_ne _ _ c] at hx; exact k _ _ hx
theorem not_in {bs : List Nat} {b : Nat} (hc : bs.contains b = false) : ∀ b', b' < bs.length → bs.getD b' 0 ≠ b := by
  intro b' hlt e
  have hm : b ∈ bs := by
    rw [← e]
    simp only [List.getD, List.getElem?_eq_getElem hlt, Option.getD_some]
    exact List.getElem_mem hlt
  rw [List.contains_iff_mem.2 hm] at hc
  cases hc
theorem gone {h : Heap} {b : Nat} (hb : h b = none) : ∀ b' x, h b' = some x → id b' ≠ b := by
  rintro b' x hx rfl
  have : h b' = none := hb
  rw [this] at hx
  cases hx
def HSub (h2 h : Heap) : Prop := ∀ b x, h2 b = some x → h b = some x
theorem hsub_refl (h : Heap) : HSub h h := fun _ _ h => h
theorem hsub_none {h2 h : Heap} {b : Nat} (k : HSub h2 h) : HSub (upd h2 b none) h := by
  intro d x hx
  by_cases c : d = b
  · subst c; rw [upd_same] at hx; cases hx
  · rw [upd_ne _ _ c] at hx; exact k _ _ hx
theorem EnvSub.putEq {e e' : Nat → Option AV} {d : Nat} {v v' : Option AV} (hv : v = v') (h : EnvSub e e') : EnvSub (upd e d v) (upd e' d v') := hv ▸ .put d v h

section
variable {σ : Nat → Nat} {h h' : Heap} {n' : Nat}
theorem fn_as {f : Fn} {a b a' b' : List Cel} (ha : CelsAs σ h h' n' a a') (hb : CelsAs σ h h' n' b b') : CelAs σ h h' n' (.fn f a b) (.fn f a' b') :=
  .fn ha.get.1.symm hb.get.1.symm ha.get.2 hb.get.2
theorem HeapAs.box {H H' : Heap} {b : Nat} {x x' : Blk} (hb : b < n') (hx : H (σ b) = some x) (hB : BlkAs σ h h' n' x x') (k : HeapAs σ h h' n' H H') : HeapAs σ h h' n' H (upd H' b (some x')) :=
  .cons hb (fun y hy => by cases hy; exact ⟨x, hx, hB⟩) k
theorem HeapAs.row {H H' : Heap} {b sz : Nat} {z : Bool} {es : List (List Cel)} (hb : b < n') (hx : H (σ b) = lstB z sz es) (hf : ∀ e, e ∈ es → freeL e = true) (k : HeapAs σ h h' n' H H') : HeapAs σ h h' n' H (upd H' b (lstB z sz es)) :=
  .cons hb (fun y hy => by
    obtain ⟨x, h1, h2⟩ := lst_blk (σ := σ) (h := h) (h' := h') (n' := n') hf y hy
    exact ⟨x, hx.trans h1, h2⟩) k
theorem HeapAs.buf {H H' : Heap} {b : Nat} {e : TypeId} {z : Bool} {l : List UInt8} (hb : b < n') (hx : H (σ b) = bufB z e l) (k : HeapAs σ h h' n' H H') : HeapAs σ h h' n' H (upd H' b (bufB z e l)) :=
  .cons hb (fun y hy => ⟨y, hx.trans hy, by cases z <;> cases hy; exact .buf⟩) k
theorem HeapAs.nonB {H H' : Heap} {b : Nat} {e : TypeId} {l : List UInt8} (hb : b < n') (k : HeapAs σ h h' n' H H') : HeapAs σ h h' n' H (upd H' b (bufB true e l)) :=
  .cons hb (fun y hy => by cases hy) k
theorem HeapAs.non {H H' : Heap} {b sz : Nat} {es : List (List Cel)} (hb : b < n') (k : HeapAs σ h h' n' H H') : HeapAs σ h h' n' H (upd H' b (lstB true sz es)) :=
  .cons hb (fun y hy => by cases hy) k
end

section
variable {P : Program} {Γ : Glob} {k0 : Nat} {K : St → Prop} {l : List (AOper × Nat × Nat)} {env : Nat → Option AV} {h : Heap} {n : Nat}
/-- a part of a region whose ways come to one value -/
theorem gjoin (m : Nat) {d : Nat} {v : AV} (h1 : ∀ X : St → Prop, (∀ e', EnvSub (upd env d (some v)) e' → X ⟨e', h, n⟩) → evDrawn P Γ k0 X (l.take m) ⟨env, h, n⟩)
    (hj : evDrawn P Γ k0 K (l.drop m) ⟨upd env d (some v), h, n⟩) : evDrawn P Γ k0 K l ⟨env, h, n⟩ := by
  have := dapp (P := P) (Γ := Γ) (k0 := k0) (K := K) (l2 := l.drop m) (h1 (evDrawn P Γ k0 K (l.drop m)) fun e' hs => dweak hs.weak hj)
  rwa [List.take_append_drop] at this

variable {f : FuncId} {xs : List Arg} {q d : Nat} {K : St → Prop}
/-- a call of what only reckons; some arguments are lent -/
theorem ac_lend {vs as : List AV} {h2 : Heap} {r : AV} (hc : CPure P Γ f as r) (hv : xs.mapM (·.get Γ env) = some vs) (hl : AVsAs id h h2 n vs as) (hs : HSub h2 h) (hf : as.all AV.free = true) (hr : r.free = true) (hcl : h2 = h ∨ r.closed = true)
    (hk : K ⟨upd env d (some r), h, n⟩) : doneAt P Γ (q + 1) (some d) (.call f xs) K ⟨env, h, n⟩ := by
  have hcr := ACalls.ren (bs := []) (n := n) (h1 := fun _ => none) (as := as) hc List.nodup_nil (fun a h => by cases h) rfl (fun i x y hx hy => by
    rw [hx] at hy; cases hy
    exact avAs_free (List.all_eq_true.1 hf x (List.mem_of_getElem? hx))) (fun b x hb => by cases hb)
  have e0 : ([] : List AV) ++ vs ++ [] = vs := by simp
  refine ac ⟨vs, hv, h2, as, hs, by rw [e0]; exact hl.get.1.symm, fun i x y h1 h2 => .inr (by rw [e0] at h1; exact hl.get.2 i x y h1 h2), fun _ => none, _, fun b x hb => (by cases hb), fun _ => rfl, hcr, ?_⟩
  rintro ra h1' na hn ⟨r0, h0, n0, _, ⟨rfl, rfl, rfl⟩, rfl, rfl, rfl⟩
  rw [avmap_free hr]
  refine ⟨?_, h, fun hb b x hx => ?_, hk⟩
  · rcases hcl with rfl | h
    · exact .inl rfl
    · exact .inr ⟨h, fun b x hb => by simp [hmap] at hb⟩
  · simp [merge, hmap, hb b x hx, hx]
end

def HIn (live : List Nat) (h : Heap) : Prop := ∀ b x, h b = some x → b ∈ live
theorem HIn.nil {live : List Nat} : HIn live (fun _ => none) := fun b x h => by cases h
theorem HIn.cons {live : List Nat} {b : Nat} {o : Option Blk} {h : Heap} (hb : b ∈ live) (k : HIn live h) : HIn live (upd h b o) := by
  intro d x hx
  by_cases c : d = b
  · subst c; exact hb
  · rw [upd_ne _ _ c] at hx; exact k _ _ hx
/-- as 'weak_canon': a block that is not there any more may have been called what one that is there was called -/
theorem weak_canon2 {k0 : Nat} {e e' : Nat → Option AV} {h h' : Heap} {n n' : Nat} (bs live : List Nat) (hnd : (live.map fun b => bs.getD b 0).Nodup) (hk : k0 ≤ n') (hfix : ∀ b, b < k0 → bs.getD b 0 = b)
    (hl : HIn live h') (he : EnvAs (fun b => bs.getD b 0) h h' n' e e') (hh : HeapAs (fun b => bs.getD b 0) h h' n' h h') : Weak k0 ⟨e, h, n⟩ ⟨e', h', n'⟩ := by
  refine .one (fun b => bs.getD b 0) ⟨hfix, hk, hh, fun b b' x x' hb hb' e => ?_, he⟩
  have l1 := hl b x hb
  have l2 := hl b' x' hb'
  obtain ⟨i, hi, rfl⟩ := List.getElem_of_mem l1
  obtain ⟨j, hj, rfl⟩ := List.getElem_of_mem l2
  have hij : i = j := (List.getElem_inj (xs := live.map fun b => bs.getD b 0) (h₀ := by simpa using hi) (h₁ := by simpa using hj) hnd).1 (by simpa using e)
  subst hij
  rfl

section
variable {σ : Nat → Nat} {h h' : Heap} {n' : Nat}
/-- a box that is lent, or given up: it is read from now on -/
theorem ref_ro {b sz j : Nat} {e cs : List Cel} (hb : h b = some (.cells sz [e])) (hn : ∀ b' x, h' b' = some x → σ b' ≠ b) (hc : CelsAs σ h h' n' (e.drop j) cs) (hf : freeL cs = true) : CelAs σ h h' n' (.ref b sz 0 j) (.rop cs) :=
  .refRo hb rfl hn hc.get.1.symm hc.get.2 hf
end

/-! ### calls that hand on, or give back, blocks -/
theorem lstC_map {ρ : Nat → Nat} {z : Bool} {b sz len : Nat} : (lstC z b sz len).map ρ = lstC z (ρ b) sz len := by cases z <;> rfl
theorem HSub.nil (h : Heap) : HSub (fun _ => none) h := fun _ _ h => by cases h
theorem HSub.cons {h1 h : Heap} {b : Nat} {o : Option Blk} (hb : h b = o) (k : HSub h1 h) : HSub (upd h1 b o) h := by
  intro d x hx
  by_cases c : d = b
  · subst c; rw [upd_same] at hx; rw [hb]; exact hx
  · rw [upd_ne _ _ c] at hx; exact k _ _ hx
def rem : List Nat → Heap → Heap
  | [], h => h
  | b :: r, h => upd (rem r h) b none
theorem rem_some : ∀ {bs : List Nat} {h : Heap} {b : Nat} {x : Blk}, rem bs h b = some x → b ∉ bs ∧ h b = some x
  | [], h, b, x, hx => ⟨by simp, hx⟩
  | a :: r, h, b, x, hx => by
    unfold rem at hx
    by_cases c : b = a
    · subst c; rw [upd_same] at hx; cases hx
    · rw [upd_ne _ _ c] at hx
      obtain ⟨h1, h2⟩ := rem_some hx
      exact ⟨by simp [c, h1], h2⟩
theorem pos_notin : ∀ {bs : List Nat} {a i : Nat}, a ∉ bs → pos bs a i = none
  | [], _, _, _ => rfl
  | x :: r, a, i, h => by
    unfold pos
    have hx : Nat.beq x a = false := by
      cases e : Nat.beq x a with
      | false => rfl
      | true => exact absurd (List.mem_cons.2 (.inl (Nat.eq_of_beq_eq_true e).symm)) h
    rw [hx]
    exact pos_notin fun hm => h (List.mem_cons.2 (.inr hm))
theorem m3_rem {bs : List Nat} {n n' : Nat} {h h1 h' : Heap} (hh1 : ∀ b x, h1 b = some x → b ∈ bs) (hlt : HLt n' h') (hbd : ∀ b x, h b = some x → b < n) : ∀ b x, rem bs h b = some x → merge n h h1 (hmap bs n n' h') b = some x := by
  intro b x hx
  obtain ⟨h2, h3⟩ := rem_some hx
  have hb := hbd b x h3
  have ht : tau bs n n' b = n' + b := by
    unfold tau
    rw [show Nat.ble (b + 1) n = true from Nat.ble_eq_true_of_le hb, pos_notin h2]
    rfl
  have hm : hmap bs n n' h' b = none := by
    unfold hmap
    rw [ht]
    cases e : h' (n' + b) with
    | none => rfl
    | some y => have := hlt _ y e; omega
  have hn : h1 b = none := by
    cases e : h1 b with
    | none => rfl
    | some y => exact absurd (hh1 b y e) h2
  simp [merge, hm, hn, hb, h3]
theorem m3_cons {M h3 : Heap} {i : Nat} {o : Option Blk} (ho : ∀ x, o = some x → M i = some x) (k : ∀ b x, h3 b = some x → M b = some x) : ∀ b x, upd h3 i o b = some x → M b = some x := by
  intro b x hx
  by_cases c : b = i
  · subst c; rw [upd_same] at hx; exact ho x hx
  · rw [upd_ne _ _ c] at hx; exact k _ _ hx
theorem m3_row {bs : List Nat} {n n' i sz : Nat} {h h1 h' : Heap} {z : Bool} {es : List (List Cel)} (hb : h' (tau bs n n' i) = lstB z sz es) (hf : ∀ e, e ∈ es → freeL e = true) : ∀ x, lstB z sz es = some x → merge n h h1 (hmap bs n n' h') i = some x := by
  intro x hx
  have : hmap bs n n' h' i = some x := by
    unfold hmap
    rw [hb, hx]
    cases z with
    | true => cases hx
    | false => cases hx; simp only [Option.map_some, blk_map hf]
  simp [merge, this]
theorem m3_buf {bs : List Nat} {n n' i : Nat} {h h1 h' : Heap} {z : Bool} {e : TypeId} {l : List UInt8} (hb : h' (tau bs n n' i) = bufB z e l) : ∀ x, bufB z e l = some x → merge n h h1 (hmap bs n n' h') i = some x := by
  intro x hx
  have : hmap bs n n' h' i = some x := by
    unfold hmap
    rw [hb, hx]
    cases z with
    | true => cases hx
    | false => cases hx; rfl
  simp [merge, this]
theorem m3_box {bs : List Nat} {n n' i : Nat} {h h1 h' : Heap} {y x : Blk} (hb : h' (tau bs n n' i) = some y) (hy : y.map (rho bs n) = x) : ∀ x', some x = some x' → merge n h h1 (hmap bs n n' h') i = some x' := by
  intro x' hx
  cases hx
  have : hmap bs n n' h' i = some x := by unfold hmap; rw [hb]; simp [hy]
  simp [merge, this]
theorem in_nil : ∀ (bs : List Nat) (b : Nat) (x : Blk), ((fun _ => none : Heap) b) = some x → b ∈ bs := fun _ _ _ h => by cases h
theorem in_cons {bs : List Nat} {h1 : Heap} {i : Nat} {o : Option Blk} (hi : i ∈ bs) (k : ∀ b x, h1 b = some x → b ∈ bs) : ∀ b x, upd h1 i o b = some x → b ∈ bs := by
  intro b x hx
  by_cases c : b = i
  · subst c; exact hi
  · rw [upd_ne _ _ c] at hx; exact k _ _ hx
mutual
theorem closed_map {ρ : Nat → Nat} {x : Cel} (h : x.closed = true) : (x.map ρ).closed = true := by
  cases x with
  | fn f a b =>
    cases a with
    | cons => cases h
    | nil => cases b with
      | cons => cases h
      | nil => rfl
  | _ => exact h
end
theorem closedL_map {ρ : Nat → Nat} {l : List Cel} (h : l.all Cel.closed = true) : (Cel.mapL ρ l).all Cel.closed = true := by
  rw [Cel.mapL_eq, List.all_map]
  exact List.all_eq_true.2 fun x hx => closed_map (List.all_eq_true.1 h x hx)
def HCl (h : Heap) : Prop := ∀ b x, h b = some x → x.closed = true
theorem HCl.nil : HCl (fun _ => none) := fun _ _ h => by cases h
theorem HCl.row {h : Heap} {b sz : Nat} {z : Bool} {es : List (List Cel)} (hf : ∀ e, e ∈ es → e.all Cel.closed = true) (k : HCl h) : HCl (upd h b (lstB z sz es)) := by
  intro d x hx
  by_cases c : d = b
  · subst c
    rw [upd_same] at hx
    cases z with
    | true => cases hx
    | false => cases hx; exact List.all_eq_true.2 hf
  · rw [upd_ne _ _ c] at hx; exact k _ _ hx
theorem HCl.buf {h : Heap} {b : Nat} {e : TypeId} {z : Bool} {l : List UInt8} (k : HCl h) : HCl (upd h b (bufB z e l)) := by
  intro d x hx
  by_cases c : d = b
  · subst c
    rw [upd_same] at hx
    cases z with
    | true => cases hx
    | false => cases hx; rfl
  · rw [upd_ne _ _ c] at hx; exact k _ _ hx
theorem HCl.box {h : Heap} {b : Nat} {y : Blk} (hy : y.closed = true) (k : HCl h) : HCl (upd h b (some y)) := by
  intro d x hx
  by_cases c : d = b
  · subst c; rw [upd_same] at hx; cases hx; exact hy
  · rw [upd_ne _ _ c] at hx; exact k _ _ hx
theorem HCl.map {bs : List Nat} {n n' : Nat} {h : Heap} (k : HCl h) : ∀ b x, hmap bs n n' h b = some x → x.closed = true := by
  intro b x hx
  unfold hmap at hx
  obtain ⟨y, hy, rfl⟩ := Option.map_eq_some_iff.1 hx
  have := k _ y hy
  cases y with
  | iter s p => rfl
  | bld T z c len => rfl
  | buf e l => rfl
  | mapb m es => exact this
  | mit m la es => exact this
  | cells sz es =>
    simp only [Blk.map, Blk.closed, List.all_map]
    exact List.all_eq_true.2 fun e he => closedL_map (List.all_eq_true.1 this e he)
theorem cl_map {α : Type} {f : α → List Cel} {xs : List α} (hf : ∀ x, (f x).all Cel.closed = true) : ∀ e, e ∈ xs.map f → e.all Cel.closed = true := by
  intro e he
  obtain ⟨x, _, rfl⟩ := List.mem_map.1 he
  exact hf x

section
variable {P : Program} {Γ : Glob} {env : Nat → Option AV} {h : Heap} {n : Nat} {f : FuncId} {first captured : List AV} {xs : List Arg} {keep : Bool} {K : Kont}
/-- a call, by a contract over blocks 0, 1, .. -/
theorem cgen {bs : List Nat} {vs as as0 : List AV} {h2 h1 h0 : Heap} {R : AV → Heap → Nat → Prop} (hc : ACalls P Γ f as0 h0 bs.length R) (hv : xs.mapM (·.get Γ env) = some vs) (hl : AVsAs id h h2 n (first ++ vs ++ captured) as) (hs : HSub h2 h) (hs1 : HSub h1 h2)
    (hkeep : keep = true → h1 = fun _ => none) (hnd : bs.Nodup) (hb : ∀ a, a ∈ bs → a < n) (ha : AVsAs (fun b => bs.getD b 0) h1 h0 bs.length as as0) (hh : HeapAs (fun b => bs.getD b 0) h1 h0 bs.length h1 h0)
    (hk : ∀ r h' n', bs.length ≤ n' → R r h' n' → (h2 = h ∨ ((r.map (rho bs n)).closed = true ∧ HCl h')) ∧
      ∃ h3 : Heap, ((∀ b x, h b = some x → b < n) → ∀ b x, h3 b = some x → merge n h h1 (hmap bs n n' h') b = some x) ∧ K.go (r.map (rho bs n)) ⟨env, h3, n + (n' - bs.length)⟩) : CallTo P Γ f first xs captured keep ⟨env, h, n⟩ := by
  have hcr := ACalls.ren (bs := bs) (n := n) (h1 := h1) (as := as) hc hnd hb ha.get.1.symm ha.get.2 hh
  refine ⟨vs, hv, h2, as, hs, hl.get.1.symm, fun i x y h1 h2 => .inr (hl.get.2 i x y h1 h2), h1, _, hs1, hkeep, hcr, ?_⟩
  rintro ra hA na hn ⟨r, h', n', hn', hR, rfl, rfl, rfl⟩
  obtain ⟨k1, h3, k2, k3⟩ := hk r h' n' hn' hR
  refine ⟨?_, h3, k2, k3⟩
  rcases k1 with k1 | ⟨k1, k4⟩
  · exact .inl k1
  · exact .inr ⟨k1, k4.map⟩
end
section
variable {P : Program} {Γ : Glob} {env : Nat → Option AV} {h : Heap} {n : Nat} {f : FuncId} {xs : List Arg} {q d : Nat} {K : St → Prop}
theorem ac_gen {bs : List Nat} {vs as as0 : List AV} {h2 h1 h0 : Heap} {R : AV → Heap → Nat → Prop} (hc : ACalls P Γ f as0 h0 bs.length R) (hv : xs.mapM (·.get Γ env) = some vs) (hl : AVsAs id h h2 n vs as) (hs : HSub h2 h) (hs1 : HSub h1 h2)
    (hkeep : (q == 0) = true → h1 = fun _ => none) (hnd : bs.Nodup) (hb : ∀ a, a ∈ bs → a < n) (ha : AVsAs (fun b => bs.getD b 0) h1 h0 bs.length as as0) (hh : HeapAs (fun b => bs.getD b 0) h1 h0 bs.length h1 h0)
    (hk : ∀ r h' n', bs.length ≤ n' → R r h' n' → (h2 = h ∨ ((r.map (rho bs n)).closed = true ∧ HCl h')) ∧
      ∃ h3 : Heap, ((∀ b x, h b = some x → b < n) → ∀ b x, h3 b = some x → merge n h h1 (hmap bs n n' h') b = some x) ∧ ∃ v n3, r.map (rho bs n) = v ∧ n + (n' - bs.length) = n3 ∧ K ⟨upd env d (some v), h3, n3⟩) :
    doneAt P Γ (q + 1) (some d) (.call f xs) K ⟨env, h, n⟩ :=
  ac (cgen (first := []) (captured := []) hc hv (by rw [List.nil_append, List.append_nil]; exact hl) hs hs1 hkeep hnd hb ha hh fun r h' n' h1 h2 => by
    obtain ⟨k1, h3, k2, v, n3, rfl, rfl, k3⟩ := hk r h' n' h1 h2
    exact ⟨k1, h3, k2, k3⟩)
theorem acv_gen {g : Arg} {first captured : List Cel} {bs : List Nat} {vs as as0 : List AV} {h2 h1 h0 : Heap} {R : AV → Heap → Nat → Prop} (hg : g.get Γ env = some (.c (.fn (.func f) first captured))) (hok : okFn P f = true) (hc : ACalls P Γ f as0 h0 bs.length R) (hv : xs.mapM (·.get Γ env) = some vs)
    (hl : AVsAs id h h2 n (first.map .c ++ vs ++ captured.map .c) as) (hs : HSub h2 h) (hs1 : HSub h1 h2)
    (hkeep : (q == 0) = true → h1 = fun _ => none) (hnd : bs.Nodup) (hb : ∀ a, a ∈ bs → a < n) (ha : AVsAs (fun b => bs.getD b 0) h1 h0 bs.length as as0) (hh : HeapAs (fun b => bs.getD b 0) h1 h0 bs.length h1 h0)
    (hk : ∀ r h' n', bs.length ≤ n' → R r h' n' → (h2 = h ∨ ((r.map (rho bs n)).closed = true ∧ HCl h')) ∧
      ∃ h3 : Heap, ((∀ b x, h b = some x → b < n) → ∀ b x, h3 b = some x → merge n h h1 (hmap bs n n' h') b = some x) ∧ ∃ v n3, r.map (rho bs n) = v ∧ n + (n' - bs.length) = n3 ∧ K ⟨upd env d (some v), h3, n3⟩) :
    doneAt P Γ (q + 1) (some d) (.callv g xs) K ⟨env, h, n⟩ :=
  acv hg hok (cgen hc hv hl hs hs1 hkeep hnd hb ha hh fun r h' n' h1 h2 => by
    obtain ⟨k1, h3, k2, v, n3, rfl, rfl, k3⟩ := hk r h' n' h1 h2
    exact ⟨k1, h3, k2, k3⟩)
end
/-! ### a list that was changed in place -/
def guardLen {α β : Type} (a b : List α) (o : Option β) : Option β := if a.length = b.length then o else none
theorem guard_some {α β : Type} {a b : List α} {o : Option β} {r : β} (h : guardLen a b o = some r) : a.length = b.length ∧ o = some r := by
  unfold guardLen at h
  split at h
  · rename_i hl; exact ⟨hl, h⟩
  · cases h
theorem len_set {α : Type} (xs : List α) (i : Nat) (a : α) : xs.length = (xs.set i a).length := (List.length_set ..).symm
theorem hz_len {α : Type} {z : Bool} {a b : List α} (hz : z = true → a = []) (hl : a.length = b.length) : z = true → b = [] := fun h => List.eq_nil_of_length_eq_zero (by rw [← hl, hz h]; rfl)
/-! ### texts and rows of bytes -/
def ints (l : List UInt8) : List Int := l.map fun b => (b.toNat : Int)
def byts (xs : List Int) : List UInt8 := xs.map fun n => UInt8.ofNat n.toNat
theorem ints_cels (l : List UInt8) : (ints l).map (eK .u8) = l.map byteCel := by
  simp only [ints, List.map_map]
  rfl
theorem byts_ints (l : List UInt8) : byts (ints l) = l := by
  simp [byts, ints, List.map_map, Function.comp_def]
section
variable {Γ : Glob} {env : Nat → Option AV} {h : Heap} {n : Nat} {x y : Arg}
theorem s_toBytes {l : List UInt8} (hx : x.get Γ env = some (.c (.str l))) :
    step2 Γ ⟨env, h, n⟩ (.toBytes x) = some (some (lstV false n 1 (ints l).length), upd h n (lstB false 1 ((ints l).map (eK .u8))), n + 1) := by
  simp only [step2, hx, lstV, lstC, lstB, cond_false, ints_cels]
  simp [ints]
theorem celByte_map (xs : List Int) : (xs.map (eK .u8)).mapM celByte = some (byts xs) := by
  induction xs with
  | nil => rfl
  | cons a r ih =>
    simp only [List.map_cons, List.mapM_cons, ih, eK, celByte, byts, bind, Option.bind_some, pure]
theorem s_ofBytes {c : Cel} {xs : List Int} (hx : x.get Γ env = some (.c c)) (hc : slContent h 1 c = some (xs.map (eK .u8))) :
    step1 Γ ⟨env, h, n⟩ (.ofBytes x) = some (.c (.str (byts xs))) := by
  simp only [step1, hx, hc, bind, Option.bind_some, celByte_map]
theorem s_appS {z : Bool} {b : Nat} {xs r : List Int} {l : List UInt8} (hx : x.get Γ env = some (lstV z b 1 xs.length)) (hb : h b = lstB z 1 (xs.map (eK .u8))) (hz : z = true → xs = []) (hn : h n = none)
    (hy : y.get Γ env = some (.c (.str l))) (ha : app? 1 xs (ints l) = some r) :
    step2 Γ ⟨env, h, n⟩ (.appS x y) = some (some (lstV (z && (ints l).isEmpty) n 1 r.length), upd (upd h b none) n (lstB (z && (ints l).isEmpty) 1 (r.map (eK .u8))), n + 1) := by
  have hcy : (Arg.const (.c (.ro false 1 ((ints l).map (eK .u8))))).get Γ env = some (.c (.ro false 1 ((ints l).map (eK .u8)))) := rfl
  have := s_app (e := eK .u8) (Γ := Γ) (env := env) (bytes := 1) hx hb hz hn hcy slc_ro ha
  have hx' : x.get Γ env = some (.c (lstC z b 1 xs.length)) := hx
  rw [← this]
  simp only [step2, hx', hy, hcy, slc_ro]
  rw [ints_cels]
end
end Go.Proofs.YtolmbcngghkfiaaDoorBv
