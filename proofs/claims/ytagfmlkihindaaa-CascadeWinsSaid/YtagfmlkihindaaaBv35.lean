/- The calculus: maps told by plain lists of their entries. It proves nothing of any program. -/
import Derived.Test.YtagfmlkihindaaaBv22
namespace Go.Proofs.YtagfmlkihindaaaBv
open Go
set_option linter.unusedVariables false
set_option linter.unusedSimpArgs false

def mget {κ ν : Type} [DecidableEq κ] : List (κ × ν) → κ → Option ν
  | [], _ => none
  | p :: r, k => if k = p.1 then some p.2 else mget r k
def mset {κ ν : Type} [DecidableEq κ] : List (κ × ν) → κ → ν → List (κ × ν)
  | [], k, v => [(k, v)]
  | p :: r, k, v => if k = p.1 then (k, v) :: r else p :: mset r k v
def mapB {κ ν : Type} (m : MK) (ek : κ → Cel) (ev : ν → AV) (l : List (κ × ν)) : Option Blk := some (.mapb m (l.map fun p => (ek p.1, ev p.2)))
theorem findC_map {κ ν : Type} [DecidableEq κ] {ek : κ → Cel} {ev : ν → AV} (hk : ∀ a b, celEq (ek a) (ek b) = decide (a = b)) (k : κ) : ∀ l : List (κ × ν), findC (ek k) (l.map fun p => (ek p.1, ev p.2)) = (mget l k).map ev
  | [] => rfl
  | p :: r => by
    simp only [List.map_cons, findC, mget, hk, decide_eq_true_eq]
    by_cases h : k = p.1
    · rw [if_pos h, if_pos h]; rfl
    · rw [if_neg h, if_neg h]; exact findC_map hk k r
theorem putC_map {κ ν : Type} [DecidableEq κ] {ek : κ → Cel} {ev : ν → AV} (hk : ∀ a b, celEq (ek a) (ek b) = decide (a = b)) (k : κ) (v : ν) : ∀ l : List (κ × ν), putC (ek k) (ev v) (l.map fun p => (ek p.1, ev p.2)) = (mset l k v).map fun p => (ek p.1, ev p.2)
  | [] => rfl
  | p :: r => by
    simp only [List.map_cons, putC, mset, hk, decide_eq_true_eq]
    by_cases h : k = p.1
    · rw [if_pos h, if_pos h]; rfl
    · rw [if_neg h, if_neg h, putC_map hk k v r]; rfl
section
variable {Γ : Glob} {env : Nat → Option AV} {h : Heap} {n : Nat} {κ ν : Type} [DecidableEq κ] {m : MK} {ek : κ → Cel} {ev : ν → AV} {x k v : Arg} {b : Nat} {l : List (κ × ν)} {key : κ} {z val : ν} {zv : AV}
theorem s_mlook (hk : ∀ a b, celEq (ek a) (ek b) = decide (a = b)) (hz : zv = ev z) (hx : x.get Γ env = some (.c (.mp b))) (hkey : k.get Γ env = some (.c (ek key))) (hok : m.ok (ek key) = true) (hb : h b = mapB m ek ev l) :
    step1 Γ ⟨env, h, n⟩ (.mlook m zv false x k) = some (ev ((mget l key).getD z)) := by
  simp only [step1, hx, hkey, hb, mapB, hok, and_self, if_true, findC_map hk]
  cases mget l key with
  | none => simp [lookV, hz]
  | some v => simp [lookV]
theorem s_mlook2 (hk : ∀ a b, celEq (ek a) (ek b) = decide (a = b)) (hz : zv = ev z) (hx : x.get Γ env = some (.c (.mp b))) (hkey : k.get Γ env = some (.c (ek key))) (hok : m.ok (ek key) = true) (hb : h b = mapB m ek ev l) :
    step1 Γ ⟨env, h, n⟩ (.mlook m zv true x k) = some (.tup [ev ((mget l key).getD z), .c (.val (.bool (mget l key).isSome))]) := by
  simp only [step1, hx, hkey, hb, mapB, hok, and_self, if_true, findC_map hk]
  cases mget l key with
  | none => simp [lookV, hz]
  | some v => simp [lookV]
theorem s_mput (hk : ∀ a b, celEq (ek a) (ek b) = decide (a = b)) (hf : (ev val).freeV = true) (hx : x.get Γ env = some (.c (.mp b))) (hkey : k.get Γ env = some (.c (ek key))) (hv : v.get Γ env = some (ev val)) (hok : m.ok (ek key) = true) (hb : h b = mapB m ek ev l) :
    step2 Γ ⟨env, h, n⟩ (.mput m x k v) = some (none, upd h b (mapB m ek ev (mset l key val)), n) := by
  simp only [step2, hx, hkey, hv, hb, mapB, hok, hf, and_self, if_true, putC_map hk]
end
theorem mapB_cl {κ ν : Type} {m : MK} {ek : κ → Cel} {ev : ν → AV} {l : List (κ × ν)} (hk : ∀ a, (ek a).closed = true) (hv : ∀ a, (ev a).closed = true) : (Blk.mapb m (l.map fun p => (ek p.1, ev p.2))).closed = true := by
  simp only [Blk.closed, List.all_map]
  exact List.all_eq_true.2 fun p _ => by simp [hk, hv]
/-! ### make of a slice -/
def mkl? {α : Type} (bytes : Nat) (a c : Int) (z : α) : Option (List α) := if 0 ≤ a ∧ a ≤ c ∧ c.toNat * bytes ≤ 140737488355328 ∧ c ≤ 140737488355328 then some (List.replicate a.toNat z) else none
theorem mkl_some {α : Type} {bytes : Nat} {a c : Int} {z : α} (h0 : 0 ≤ a) (h1 : a ≤ c) (h2 : c.toNat * bytes ≤ 140737488355328) (h3 : c ≤ 140737488355328) : mkl? bytes a c z = some (List.replicate a.toNat z) := if_pos ⟨h0, h1, h2, h3⟩
section
variable {P : Program} {Γ : Glob} {k0 : Nat} {K : St → Prop} {rest : List (AOper × Nat × Nat)} {env : Nat → Option AV} {h : Heap} {n : Nat}
theorem a2mk {α : Type} {e : α → List Cel} {q d sz bytes : Nat} {zc : List Cel} {l c : Arg} {a b : Int} {z : α} {x : List α} (hl : l.get Γ env = some (I a)) (hc : c.get Γ env = some (I b)) (hx : mkl? bytes a b z = some x)
    (hz : ∀ g g' : Heap, CelsAs id g g' (n + 1) zc (e z))
    (hk : evDrawn P Γ k0 K rest ⟨upd env d (some (lstV false n sz x.length)), upd h n (lstB false sz (x.map e)), n + 1⟩) :
    doneAt P Γ (q + 1) (some d) (.mksl sz bytes zc l c) (evDrawn P Γ k0 K rest) ⟨env, h, n⟩ := by
  unfold mkl? at hx
  split at hx
  · rename_i hcnd
    cases hx
    refine a2v (v := .c (.own n sz 0 a.toNat b.toNat)) (h' := upd h n (some (.cells sz (List.replicate b.toNat zc)))) (n' := n + 1) rfl ?_ (fun _ => rfl) ?_
    · simp only [step2, getI, hl, hc, Option.bind_some, AV.int?]
      rw [if_pos ⟨hcnd.1, hcnd.2.1, hcnd.2.2.1, hcnd.2.2.2⟩]
    · refine dweak (s' := ⟨upd env d (some (lstV false n sz (List.replicate a.toNat z).length)), upd h n (lstB false sz ((List.replicate a.toNat z).map e)), n + 1⟩) (Weak.same (s' := ⟨upd env d (some (lstV false n sz (List.replicate a.toNat z).length)), upd h n (lstB false sz ((List.replicate a.toNat z).map e)), n + 1⟩) ?_ (.refl _)) hk
      refine ⟨rfl, fun i y hy => ?_, fun i v hv => ?_⟩
      · replace hy : upd h n (lstB false sz ((List.replicate a.toNat z).map e)) i = some y := hy
        show ∃ x, upd h n (some (.cells sz (List.replicate b.toNat zc))) i = some x ∧ _
        by_cases hi : i = n
        · subst hi
          rw [upd_same] at hy
          cases hy
          refine ⟨_, upd_same _ _ _, .inr (.cells (by simp; omega) fun j e' he' => ?_)⟩
          rw [List.map_replicate, List.getElem?_replicate] at he'
          split at he'
          · cases he'
            refine ⟨zc, ?_, (hz (fun _ => none) (fun _ => none)).get.1, fun k u w hu hw => (hz _ _).get.2 k u w hu hw⟩
            rw [List.getElem?_replicate, if_pos (by omega)]
          · cases he'
        · rw [upd_ne _ _ hi] at hy
          exact ⟨y, by rw [upd_ne _ _ hi]; exact hy, .inl rfl⟩
      · replace hv : upd env d (some (lstV false n sz (List.replicate a.toNat z).length)) i = some v := hv
        show upd env d (some (.c (.own n sz 0 a.toNat b.toNat))) i = some v ∨ _
        by_cases hi : i = d
        · subst hi
          rw [upd_same] at hv
          cases hv
          refine .inr ⟨_, upd_same _ _ _, .c ?_⟩
          have e1 : (List.replicate a.toNat z).length = a.toNat := List.length_replicate
          rw [e1]
          exact .own rfl (Nat.lt_succ_self n) (Nat.le_refl _) (by omega)
        · rw [upd_ne _ _ hi] at hv
          exact .inl (by rw [upd_ne _ _ hi]; exact hv)
  · cases hx
end
end Go.Proofs.YtagfmlkihindaaaBv
