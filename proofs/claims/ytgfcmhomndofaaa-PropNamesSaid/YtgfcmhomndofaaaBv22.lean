/- The calculus: words and steps that the printed walks use. It proves nothing of any program. -/
import Derived.Test.YtgfcmhomndofaaaBv21
import Derived.KernelRfl
namespace Go.Proofs.YtgfcmhomndofaaaBv
open Go
set_option linter.unusedVariables false
set_option linter.unusedSimpArgs false

/-! ### how values lie in cells -/
def eK (k : IntKind) (n : Int) : List Cel := [.val (.int k n)]
def eI (n : Int) : List Cel := [.val (.int .i64 n)]
def eB (b : Bool) : List Cel := [.val (.bool b)]
def eStr (s : List UInt8) : List Cel := [.str s]
def eSl {α : Type} (sz : Nat) (f : α → List Cel) (xs : List α) : List Cel := [.ro false sz (xs.map f)]
structure Ar4 (α : Type) where
  a0 : α
  a1 : α
  a2 : α
  a3 : α
def eA4 {α : Type} (f : α → List Cel) (x : Ar4 α) : List Cel := f x.a0 ++ f x.a1 ++ f x.a2 ++ f x.a3

/-! ### numbers -/
def wr (k : IntKind) (n : Int) : Int := k.wrap n
def mx (x y : Int) : Int := if y > x then y else x
def mn (x y : Int) : Int := if y < x then y else x
def shl (k : IntKind) (x : Int) (n : Nat) : Int := k.wrap (x * 2 ^ (min n k.bits))
def shr (k : IntKind) (x : Int) (n : Nat) : Int := x.fdiv (2 ^ (min n k.bits))
def quo? (k : IntKind) (x y : Int) : Option Int := if y = 0 then none else some (k.wrap (x.tdiv y))
def rem? (k : IntKind) (x y : Int) : Option Int := if y = 0 then none else some (x.tmod y)
def shl? (k : IntKind) (x y : Int) : Option Int := if y < 0 then none else some (shl k x y.toNat)
def shr? (k : IntKind) (x y : Int) : Option Int := if y < 0 then none else some (shr k x y.toNat)

section
variable {Γ : Glob} {h : Heap} {n : Nat} {env : Nat → Option AV} {x y : Arg} {k k' : IntKind} {a b r : Int}
theorem s_quo (hx : x.get Γ env = some (.c (.val (.int k a)))) (hy : y.get Γ env = some (.c (.val (.int k b)))) (hr : quo? k a b = some r) : step1 Γ ⟨env, h, n⟩ (.bin .quo x y) = some (.c (.val (.int k r))) := by
  unfold quo? at hr
  split at hr
  · cases hr
  · rename_i hb
    cases hr
    simp [step1, hx, hy, binI, hb]
theorem s_rem (hx : x.get Γ env = some (.c (.val (.int k a)))) (hy : y.get Γ env = some (.c (.val (.int k b)))) (hr : rem? k a b = some r) : step1 Γ ⟨env, h, n⟩ (.bin .rem x y) = some (.c (.val (.int k r))) := by
  unfold rem? at hr
  split at hr
  · cases hr
  · rename_i hb
    cases hr
    simp [step1, hx, hy, binI, hb]
theorem s_shl (hx : x.get Γ env = some (.c (.val (.int k a)))) (hy : y.get Γ env = some (.c (.val (.int k' b)))) (hr : shl? k a b = some r) : step1 Γ ⟨env, h, n⟩ (.bin .shl x y) = some (.c (.val (.int k r))) := by
  unfold shl? at hr
  split at hr
  · cases hr
  · rename_i hb
    cases hr
    simp [step1, hx, hy, binI, hb, shl]
theorem s_shr (hx : x.get Γ env = some (.c (.val (.int k a)))) (hy : y.get Γ env = some (.c (.val (.int k' b)))) (hr : shr? k a b = some r) : step1 Γ ⟨env, h, n⟩ (.bin .shr x y) = some (.c (.val (.int k r))) := by
  unfold shr? at hr
  split at hr
  · cases hr
  · rename_i hb
    cases hr
    simp [step1, hx, hy, binI, hb, shr]
end

section
variable {Γ : Glob} {h : Heap} {n : Nat} {env : Nat → Option AV} {x y z : Arg} {k k' k'' : IntKind} {a b c : Int}
theorem s_mx (hx : x.get Γ env = some (.c (.val (.int k a)))) (hy : y.get Γ env = some (.c (.val (.int k' b)))) : step1 Γ ⟨env, h, n⟩ (.mm true [x, y]) = some (.c (.val (.int k (mx a b)))) := by
  simp only [step1, List.foldl_cons, List.foldl_nil, hx, hy, Option.bind_some, valOf, mm2]
  rfl
theorem s_mn (hx : x.get Γ env = some (.c (.val (.int k a)))) (hy : y.get Γ env = some (.c (.val (.int k' b)))) : step1 Γ ⟨env, h, n⟩ (.mm false [x, y]) = some (.c (.val (.int k (mn a b)))) := by
  simp only [step1, List.foldl_cons, List.foldl_nil, hx, hy, Option.bind_some, valOf, mm2]
  rfl
theorem s_mx3 (hx : x.get Γ env = some (.c (.val (.int k a)))) (hy : y.get Γ env = some (.c (.val (.int k' b)))) (hz : z.get Γ env = some (.c (.val (.int k'' c)))) :
    step1 Γ ⟨env, h, n⟩ (.mm true [x, y, z]) = some (.c (.val (.int k (mx (mx a b) c)))) := by
  simp only [step1, List.foldl_cons, List.foldl_nil, hx, hy, hz, Option.bind_some, valOf, mm2]
  rfl
theorem s_mn3 (hx : x.get Γ env = some (.c (.val (.int k a)))) (hy : y.get Γ env = some (.c (.val (.int k' b)))) (hz : z.get Γ env = some (.c (.val (.int k'' c)))) :
    step1 Γ ⟨env, h, n⟩ (.mm false [x, y, z]) = some (.c (.val (.int k (mn (mn a b) c)))) := by
  simp only [step1, List.foldl_cons, List.foldl_nil, hx, hy, hz, Option.bind_some, valOf, mm2]
  rfl
end

/-! ### an element of an array, by a number that is not known -/
inductive Sel {α : Type} (f : Nat → Option AV) (v : α → AV) : Nat → List α → Prop
  | nil {i : Nat} : Sel f v i []
  | cons {i : Nat} {a : α} {L : List α} (h : f i = some (v a)) (k : Sel f v (i + 1) L) : Sel f v i (a :: L)
theorem Sel.get {α : Type} {f : Nat → Option AV} {v : α → AV} {i : Nat} {L : List α} (s : Sel f v i L) : ∀ (j : Nat) (q : α), L[j]? = some q → f (i + j) = some (v q) := by
  induction s with
  | nil => intro j q h; simp at h
  | cons h _ ih =>
    intro j q hq
    cases j with
    | zero => simp only [List.getElem?_cons_zero, Option.some.injEq] at hq; subst hq; exact h
    | succ j =>
      have := ih j q (by simpa using hq)
      rwa [Nat.add_assoc, Nat.add_comm 1 j] at this
section
variable {Γ : Glob} {h : Heap} {n : Nat} {env : Nat → Option AV} {x i a : Arg} {k : IntKind} {j : Int} {α : Type} {L : List α} {q : α} {v : α → AV} {agg : Bool} {m : Nat}
theorem at_lt (ha : at? L j = some q) : 0 ≤ j ∧ j < L.length ∧ j.toNat < L.length := by
  obtain ⟨h0, h1⟩ := at_spec ha
  have := (List.getElem?_eq_some_iff.1 h1).1
  omega
theorem s_idxA {sz len : Nat} {cs : List Cel} (hx : x.get Γ env = some (.agg cs)) (hi : i.get Γ env = some (.c (.val (.int k j)))) (hl : L.length = len) (hs : Sel (fun i => rdC agg sz (cs.drop (i * sz))) v 0 L) (ha : at? L j = some q) :
    step1 Γ ⟨env, h, n⟩ (.idxA agg len sz x i) = some (v q) := by
  obtain ⟨h0, h1, h2⟩ := at_lt ha
  subst hl
  have := hs.get j.toNat q (at_spec ha).2
  simp only [Nat.zero_add] at this
  simp [step1, hx, getI, hi, AV.int?, h0, h1, this]
theorem s_iaddrA {b s off sz len : Nat} (hx : x.get Γ env = some (.c (.ref b s 0 off))) (hi : i.get Γ env = some (.c (.val (.int k j)))) (hl : L.length = len) (ha : at? L j = some q) :
    step1 Γ ⟨env, h, n⟩ (.iaddrA len sz x i) = some (.c (.ref b s 0 (off + j.toNat * sz))) := by
  obtain ⟨h0, h1, h2⟩ := at_lt ha
  subst hl
  simp [step1, hx, getI, hi, AV.int?, h0, h1]
theorem s_iaddrAr {cs : List Cel} {sz len : Nat} (hx : x.get Γ env = some (.c (.rop cs))) (hi : i.get Γ env = some (.c (.val (.int k j)))) (hl : L.length = len) (ha : at? L j = some q) :
    step1 Γ ⟨env, h, n⟩ (.iaddrA len sz x i) = some (.c (.rop (cs.drop (j.toNat * sz)))) := by
  obtain ⟨h0, h1, h2⟩ := at_lt ha
  subst hl
  simp [step1, hx, getI, hi, AV.int?, h0, h1]
theorem s_loadA {b s off sz o2 : Nat} {cs : List Cel} (hx : a.get Γ env = some (.c (.ref b s 0 (off + j.toNat * sz + o2)))) (hb : h b = some (.cells s [cs])) (hs : Sel (fun i => rdC agg m (cs.drop (off + i * sz + o2))) v 0 L) (ha : at? L j = some q) :
    step1 Γ ⟨env, h, n⟩ (.load agg m a) = some (v q) := by
  have := hs.get j.toNat q (at_spec ha).2
  simp only [Nat.zero_add] at this
  simp [step1, hx, hb, this]
theorem s_loadAr {sz o2 : Nat} {cs : List Cel} (hx : a.get Γ env = some (.c (.rop ((cs.drop (j.toNat * sz)).drop o2)))) (hs : Sel (fun i => rdC agg m (cs.drop (i * sz + o2))) v 0 L) (ha : at? L j = some q) :
    step1 Γ ⟨env, h, n⟩ (.load agg m a) = some (v q) := by
  have := hs.get j.toNat q (at_spec ha).2
  simp only [Nat.zero_add] at this
  simp only [step1, hx, List.drop_drop]
  exact this
end

/-! ### small words of the steps -/
theorem fr_map {α : Type} {f : α → List Cel} {xs : List α} (hf : ∀ x, freeL (f x) = true) : ∀ e, e ∈ xs.map f → freeL e = true := by
  intro e he
  obtain ⟨x, _, rfl⟩ := List.mem_map.1 he
  exact hf x
theorem map_nil_of {α β : Type} {f : α → β} {z : Bool} {xs : List α} (hz : z = true → xs = []) : z = true → xs.map f = [] := fun h => by rw [hz h]; rfl
theorem len_nil_of {α : Type} {z : Bool} {xs : List α} (hz : z = true → xs = []) : z = true → xs.length = 0 := fun h => by rw [hz h]; rfl
def HLt (n : Nat) (h : Heap) : Prop := ∀ b x, h b = some x → b < n
theorem HLt.nil {n : Nat} : HLt n (fun _ => none) := fun b x h => by cases h
theorem HLt.cons {n b : Nat} {o : Option Blk} {h : Heap} (hb : b < n) (k : HLt n h) : HLt n (upd h b o) := by
  intro d x hx
  by_cases c : d = b
  · subst c; exact hb
  · rw [upd_ne _ _ c] at hx; exact k _ _ hx
theorem not_in {bs : List Nat} {b : Nat} (hc : bs.contains b = false) : ∀ b', b' < bs.length → bs.getD b' 0 ≠ b := by
  intro b' hlt e
  have hm : b ∈ bs := by
    rw [← e]
    simp only [List.getD, List.getElem?_eq_getElem hlt, Option.getD_some]
    exact List.getElem_mem hlt
  rw [List.contains_iff_mem.2 hm] at hc
  cases hc
theorem gone {h : Heap} {b : Nat} (hb : h b = none) : ∀ b' x, h b' = some x → id b' ≠ b := by
  rintro b' x hx rfl
  have : h b' = none := hb
  rw [this] at hx
  cases hx
def HSub (h2 h : Heap) : Prop := ∀ b x, h2 b = some x → h b = some x
theorem hsub_refl (h : Heap) : HSub h h := fun _ _ h => h
theorem hsub_none {h2 h : Heap} {b : Nat} (k : HSub h2 h) : HSub (upd h2 b none) h := by
  intro d x hx
  by_cases c : d = b
  · subst c; rw [upd_same] at hx; cases hx
  · rw [upd_ne _ _ c] at hx; exact k _ _ hx
theorem EnvSub.putEq {e e' : Nat → Option AV} {d : Nat} {v v' : Option AV} (hv : v = v') (h : EnvSub e e') : EnvSub (upd e d v) (upd e' d v') := hv ▸ .put d v h

section
variable {σ : Nat → Nat} {h h' : Heap} {n' : Nat}
theorem fn_as {f : Fn} {a b a' b' : List Cel} (ha : CelsAs σ h h' n' a a') (hb : CelsAs σ h h' n' b b') : CelAs σ h h' n' (.fn f a b) (.fn f a' b') :=
  .fn ha.get.1.symm hb.get.1.symm ha.get.2 hb.get.2
theorem HeapAs.box {H H' : Heap} {b : Nat} {x x' : Blk} (hb : b < n') (hx : H (σ b) = some x) (hB : BlkAs σ h h' n' x x') (k : HeapAs σ h h' n' H H') : HeapAs σ h h' n' H (upd H' b (some x')) :=
  .cons hb (fun y hy => by cases hy; exact ⟨x, hx, hB⟩) k
theorem HeapAs.row {H H' : Heap} {b sz : Nat} {z : Bool} {es : List (List Cel)} (hb : b < n') (hx : H (σ b) = lstB z sz es) (hf : ∀ e, e ∈ es → freeL e = true) (k : HeapAs σ h h' n' H H') : HeapAs σ h h' n' H (upd H' b (lstB z sz es)) :=
  .cons hb (fun y hy => by
    obtain ⟨x, h1, h2⟩ := lst_blk (σ := σ) (h := h) (h' := h') (n' := n') hf y hy
    exact ⟨x, hx.trans h1, h2⟩) k
theorem HeapAs.non {H H' : Heap} {b sz : Nat} {es : List (List Cel)} (hb : b < n') (k : HeapAs σ h h' n' H H') : HeapAs σ h h' n' H (upd H' b (lstB true sz es)) :=
  .cons hb (fun y hy => by cases hy) k
end

section
variable {P : Program} {Γ : Glob} {k0 : Nat} {K : St → Prop} {l : List (AOper × Nat × Nat)} {env : Nat → Option AV} {h : Heap} {n : Nat}
/-- a part of a region whose ways come to one value -/
theorem gjoin (m : Nat) {d : Nat} {v : AV} (h1 : ∀ X : St → Prop, (∀ e', EnvSub (upd env d (some v)) e' → X ⟨e', h, n⟩) → evDrawn P Γ k0 X (l.take m) ⟨env, h, n⟩)
    (hj : evDrawn P Γ k0 K (l.drop m) ⟨upd env d (some v), h, n⟩) : evDrawn P Γ k0 K l ⟨env, h, n⟩ := by
  have := dapp (P := P) (Γ := Γ) (k0 := k0) (K := K) (l2 := l.drop m) (h1 (evDrawn P Γ k0 K (l.drop m)) fun e' hs => dweak hs.weak hj)
  rwa [List.take_append_drop] at this

variable {f : FuncId} {xs : List Arg} {q d : Nat} {K : St → Prop}
/-- a call of what only reckons; some arguments are lent -/
theorem ac_lend {vs as : List AV} {h2 : Heap} {r : AV} (hc : CPure P Γ f as r) (hv : xs.mapM (·.get Γ env) = some vs) (hl : AVsAs id h h2 n vs as) (hs : HSub h2 h) (hf : as.all AV.free = true) (hr : r.free = true) (hcl : h2 = h ∨ r.closed = true)
    (hk : K ⟨upd env d (some r), h, n⟩) : doneAt P Γ (q + 1) (some d) (.call f xs) K ⟨env, h, n⟩ := by
  have hcr := ACalls.ren (bs := []) (n := n) (h1 := fun _ => none) (as := as) hc List.nodup_nil (fun a h => by cases h) rfl (fun i x y hx hy => by
    rw [hx] at hy; cases hy
    exact avAs_free (List.all_eq_true.1 hf x (List.mem_of_getElem? hx))) (fun b x hb => by cases hb)
  have e0 : ([] : List AV) ++ vs ++ [] = vs := by simp
  refine ac ⟨vs, hv, h2, as, hs, by rw [e0]; exact hl.get.1.symm, fun i x y h1 h2 => .inr (by rw [e0] at h1; exact hl.get.2 i x y h1 h2), fun _ => none, _, fun b x hb => (by cases hb), fun _ => rfl, hcr, ?_⟩
  rintro ra h1' na hn ⟨r0, h0, n0, _, ⟨rfl, rfl, rfl⟩, rfl, rfl, rfl⟩
  rw [avmap_free hr]
  refine ⟨?_, h, fun hb b x hx => ?_, hk⟩
  · rcases hcl with rfl | h
    · exact .inl rfl
    · exact .inr ⟨h, fun b x hb => by simp [hmap] at hb⟩
  · simp [merge, hmap, hb b x hx, hx]
end
end Go.Proofs.YtgfcmhomndofaaaBv
