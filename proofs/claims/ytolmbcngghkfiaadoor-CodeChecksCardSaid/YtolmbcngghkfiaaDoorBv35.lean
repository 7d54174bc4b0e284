/- The calculus: maps told by plain lists of their entries. It proves nothing of any program. -/
import Derived.Test.YtolmbcngghkfiaaDoorBv22
namespace Go.Proofs.YtolmbcngghkfiaaDoorBv
open Go
set_option linter.unusedVariables false
set_option linter.unusedSimpArgs false

def mget {κ ν : Type} [DecidableEq κ] : List (κ × ν) → κ → Option ν
  | [], _ => none
  | p :: r, k => if k = p.1 then some p.2 else mget r k
def mset {κ ν : Type} [DecidableEq κ] : List (κ × ν) → κ → ν → List (κ × ν)
  | [], k, v => [(k, v)]
  | p :: r, k, v => if k = p.1 then (k, v) :: r else p :: mset r k v
def mapB {κ ν : Type} (m : MK) (ek : κ → Cel) (ev : ν → AV) (l : List (κ × ν)) : Option Blk := some (.mapb m (l.map fun p => (ek p.1, ev p.2)))
theorem findC_map {κ ν : Type} [DecidableEq κ] {ek : κ → Cel} {ev : ν → AV} (hk : ∀ a b, celEq (ek a) (ek b) = decide (a = b)) (k : κ) : ∀ l : List (κ × ν), findC (ek k) (l.map fun p => (ek p.1, ev p.2)) = (mget l k).map ev
  | [] => rfl
  | p :: r => by
    simp only [List.map_cons, findC, mget, hk, decide_eq_true_eq]
    by_cases h : k = p.1
    · rw [if_pos h, if_pos h]; rfl
    · rw [if_neg h, if_neg h]; exact findC_map hk k r
theorem putC_map {κ ν : Type} [DecidableEq κ] {ek : κ → Cel} {ev : ν → AV} (hk : ∀ a b, celEq (ek a) (ek b) = decide (a = b)) (k : κ) (v : ν) : ∀ l : List (κ × ν), putC (ek k) (ev v) (l.map fun p => (ek p.1, ev p.2)) = (mset l k v).map fun p => (ek p.1, ev p.2)
  | [] => rfl
  | p :: r => by
    simp only [List.map_cons, putC, mset, hk, decide_eq_true_eq]
    by_cases h : k = p.1
    · rw [if_pos h, if_pos h]; rfl
    · rw [if_neg h, if_neg h, putC_map hk k v r]; rfl
section
variable {Γ : Glob} {env : Nat → Option AV} {h : Heap} {n : Nat} {κ ν : Type} [DecidableEq κ] {m : MK} {ek : κ → Cel} {ev : ν → AV} {x k v : Arg} {b : Nat} {l : List (κ × ν)} {key : κ} {z val : ν} {zv : AV}
theorem s_mlook (hk : ∀ a b, celEq (ek a) (ek b) = decide (a = b)) (hz : zv = ev z) (hx : x.get Γ env = some (.c (.mp b))) (hkey : k.get Γ env = some (.c (ek key))) (hok : m.ok (ek key) = true) (hb : h b = mapB m ek ev l) :
    step1 Γ ⟨env, h, n⟩ (.mlook m zv false x k) = some (ev ((mget l key).getD z)) := by
  simp only [step1, hx, hkey, hb, mapB, hok, and_self, if_true, findC_map hk]
  cases mget l key with
  | none => simp [lookV, hz]
  | some v => simp [lookV]
theorem s_mlook2 (hk : ∀ a b, celEq (ek a) (ek b) = decide (a = b)) (hz : zv = ev z) (hx : x.get Γ env = some (.c (.mp b))) (hkey : k.get Γ env = some (.c (ek key))) (hok : m.ok (ek key) = true) (hb : h b = mapB m ek ev l) :
    step1 Γ ⟨env, h, n⟩ (.mlook m zv true x k) = some (.tup [ev ((mget l key).getD z), .c (.val (.bool (mget l key).isSome))]) := by
  simp only [step1, hx, hkey, hb, mapB, hok, and_self, if_true, findC_map hk]
  cases mget l key with
  | none => simp [lookV, hz]
  | some v => simp [lookV]
theorem s_mput (hk : ∀ a b, celEq (ek a) (ek b) = decide (a = b)) (hf : (ev val).freeV = true) (hx : x.get Γ env = some (.c (.mp b))) (hkey : k.get Γ env = some (.c (ek key))) (hv : v.get Γ env = some (ev val)) (hok : m.ok (ek key) = true) (hb : h b = mapB m ek ev l) :
    step2 Γ ⟨env, h, n⟩ (.mput m x k v) = some (none, upd h b (mapB m ek ev (mset l key val)), n) := by
  simp only [step2, hx, hkey, hv, hb, mapB, hok, hf, and_self, if_true, putC_map hk]
end
theorem mapB_cl {κ ν : Type} {m : MK} {ek : κ → Cel} {ev : ν → AV} {l : List (κ × ν)} (hk : ∀ a, (ek a).closed = true) (hv : ∀ a, (ev a).closed = true) : (Blk.mapb m (l.map fun p => (ek p.1, ev p.2))).closed = true := by
  simp only [Blk.closed, List.all_map]
  exact List.all_eq_true.2 fun p _ => by simp [hk, hv]
/-! ### make of a slice -/
def mkl? {α : Type} (bytes : Nat) (a c : Int) (z : α) : Option (List α) := if 0 ≤ a ∧ a ≤ c ∧ c.toNat * bytes ≤ 140737488355328 ∧ c ≤ 140737488355328 then some (List.replicate a.toNat z) else none
theorem mkl_some {α : Type} {bytes : Nat} {a c : Int} {z : α} (h0 : 0 ≤ a) (h1 : a ≤ c) (h2 : c.toNat * bytes ≤ 140737488355328) (h3 : c ≤ 140737488355328) : mkl? bytes a c z = some (List.replicate a.toNat z) := if_pos ⟨h0, h1, h2, h3⟩
section
variable {P : Program} {Γ : Glob} {k0 : Nat} {K : St → Prop} {rest : List (AOper × Nat × Nat)} {env : Nat → Option AV} {h : Heap} {n : Nat}
theorem a2mk {α : Type} {e : α → List Cel} {q d sz bytes : Nat} {zc : List Cel} {l c : Arg} {a b : Int} {z : α} {x : List α} (hl : l.get Γ env = some (I a)) (hc : c.get Γ env = some (I b)) (hx : mkl? bytes a b z = some x)
    (hz : ∀ g g' : Heap, CelsAs id g g' (n + 1) zc (e z))
    (hk : evDrawn P Γ k0 K rest ⟨upd env d (some (lstV false n sz x.length)), upd h n (lstB false sz (x.map e)), n + 1⟩) :
    doneAt P Γ (q + 1) (some d) (.mksl sz bytes zc l c) (evDrawn P Γ k0 K rest) ⟨env, h, n⟩ := by
  unfold mkl? at hx
  split at hx
  · rename_i hcnd
    cases hx
    refine a2v (v := .c (.own n sz 0 a.toNat b.toNat)) (h' := upd h n (some (.cells sz (List.replicate b.toNat zc)))) (n' := n + 1) rfl ?_ (fun _ => rfl) ?_
    · simp only [step2, getI, hl, hc, Option.bind_some, AV.int?]
      rw [if_pos ⟨hcnd.1, hcnd.2.1, hcnd.2.2.1, hcnd.2.2.2⟩]
    · refine dweak (s' := ⟨upd env d (some (lstV false n sz (List.replicate a.toNat z).length)), upd h n (lstB false sz ((List.replicate a.toNat z).map e)), n + 1⟩) (Weak.same (s' := ⟨upd env d (some (lstV false n sz (List.replicate a.toNat z).length)), upd h n (lstB false sz ((List.replicate a.toNat z).map e)), n + 1⟩) ?_ (.refl _)) hk
      refine ⟨rfl, fun i y hy => ?_, fun i v hv => ?_⟩
      · replace hy : upd h n (lstB false sz ((List.replicate a.toNat z).map e)) i = some y := hy
        show ∃ x, upd h n (some (.cells sz (List.replicate b.toNat zc))) i = some x ∧ _
        by_cases hi : i = n
        · subst hi
          rw [upd_same] at hy
          cases hy
          refine ⟨_, upd_same _ _ _, .inr (.cells (by simp; omega) fun j e' he' => ?_)⟩
          rw [List.map_replicate, List.getElem?_replicate] at he'
          split at he'
          · cases he'
            refine ⟨zc, ?_, (hz (fun _ => none) (fun _ => none)).get.1, fun k u w hu hw => (hz _ _).get.2 k u w hu hw⟩
            rw [List.getElem?_replicate, if_pos (by omega)]
          · cases he'
        · rw [upd_ne _ _ hi] at hy
          exact ⟨y, by rw [upd_ne _ _ hi]; exact hy, .inl rfl⟩
      · replace hv : upd env d (some (lstV false n sz (List.replicate a.toNat z).length)) i = some v := hv
        show upd env d (some (.c (.own n sz 0 a.toNat b.toNat))) i = some v ∨ _
        by_cases hi : i = d
        · subst hi
          rw [upd_same] at hv
          cases hv
          refine .inr ⟨_, upd_same _ _ _, .c ?_⟩
          have e1 : (List.replicate a.toNat z).length = a.toNat := List.length_replicate
          rw [e1]
          exact .own rfl (Nat.lt_succ_self n) (Nat.le_refl _) (by omega)
        · rw [upd_ne _ _ hi] at hv
          exact .inl (by rw [upd_ne _ _ hi]; exact hv)
  · cases hx
end
/-! ### an own list that is cut at its end -/
def cutC (z : Bool) (b sz len m : Nat) : Cel := bif z then .ro true sz [] else .own b sz 0 len m
abbrev cutV (z : Bool) (b sz len m : Nat) : AV := .c (cutC z b sz len m)
theorem cut_nil {α : Type} {z : Bool} {xs r : List α} {k : Int} (hz : z = true → xs = []) (hs : sub? xs 0 k = some r) : z = true → r = [] := by
  intro h
  obtain ⟨h0, h1, h2, rfl⟩ := sub_spec hs
  rw [hz h]
  simp
theorem cutP {α : Type} {e : α → List Cel} {xs r : List α} {k : Int} (hs : sub? xs 0 k = some r) : ∃ j, r.map e = (xs.map e).take j := by
  obtain ⟨h0, h1, h2, rfl⟩ := sub_spec hs
  exact ⟨k.toNat, by simp⟩
theorem cut_le {α : Type} {xs r : List α} {k : Int} (hs : sub? xs 0 k = some r) : r.length ≤ xs.length := by
  obtain ⟨h0, h1, h2, rfl⟩ := sub_spec hs
  simp
  omega
theorem s_cutL {α : Type} {Γ : Glob} {env : Nat → Option AV} {h : Heap} {n b sz : Nat} {z : Bool} {x : Arg} {lo hi : Option Arg} {xs r : List α} {k : Int} (hx : x.get Γ env = some (lstV z b sz xs.length)) (hz : z = true → xs = [])
    (hlo : bnI Γ env 0 lo = some 0) (hhi : bnI Γ env xs.length hi = some k) (hs : sub? xs 0 k = some r) : step1 Γ ⟨env, h, n⟩ (.slSl sz x lo hi none) = some (cutV z b sz r.length xs.length) := by
  obtain ⟨h0, h1, h2, rfl⟩ := sub_spec hs
  have hb : boundI Γ env xs.length xs.length hi = some k.toNat := bound_of (Nat.le_refl _) hhi (by omega) h2
  have ha : boundI Γ env 0 k.toNat lo = some 0 := bound_of (hi := k.toNat) (Nat.zero_le _) hlo (Int.le_refl 0) (by omega)
  have hl : ((xs.take k.toNat).drop (0 : Int).toNat).length = k.toNat := by simp; omega
  rw [hl]
  cases z with
  | false =>
    have hx' : x.get Γ env = some (.c (.own b sz 0 xs.length xs.length)) := hx
    simp only [step1, hx', hb, ha, if_true, Nat.sub_zero, Nat.add_zero]
    rfl
  | true =>
    have hx' : x.get Γ env = some (.c (.ro true sz [])) := hx
    have e0 : xs = [] := hz rfl
    subst e0
    simp only [List.length_nil] at hb
    simp only [step1, hx', List.length_nil, hb, ha, decide_true, Bool.true_or, if_true, List.take_nil, List.drop_nil]
    rfl
theorem cut_ren {σ : Nat → Nat} {h h' : Heap} {n' b b' sz len m : Nat} {z : Bool} (hb : b' = σ b) (hn : b < n') (hl : len ≤ m) : CelAs σ h h' n' (cutC z b' sz len m) (lstC z b sz len) := by
  cases z
  · exact .own hb hn (Nat.le_refl _) hl
  · exact .same rfl
theorem HeapAs.rowP {σ : Nat → Nat} {h h' : Heap} {n' : Nat} {H H' : Heap} {b sz : Nat} {z : Bool} {es es' : List (List Cel)} (hb : b < n') (hx : H (σ b) = lstB z sz es) (hp : ∃ k, es' = es.take k) (hf : ∀ e, e ∈ es → freeL e = true) (k : HeapAs σ h h' n' H H') : HeapAs σ h h' n' H (upd H' b (lstB z sz es')) :=
  .cons hb (fun y hy => by
    obtain ⟨j, rfl⟩ := hp
    cases z
    · cases hy
      exact ⟨_, hx, blkAs_take hf⟩
    · cases hy) k
end Go.Proofs.YtolmbcngghkfiaaDoorBv
