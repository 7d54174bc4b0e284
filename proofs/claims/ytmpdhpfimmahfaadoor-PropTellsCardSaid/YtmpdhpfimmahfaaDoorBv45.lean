/- The calculus: an array of the call's own, read and written at a number that is not known; a part of it as a slice. It proves nothing of any program. -/
import Derived.Test.YtmpdhpfimmahfaaDoorBv40
namespace Go.Proofs.YtmpdhpfimmahfaaDoorBv
open Go
set_option linter.unusedVariables false
set_option linter.unusedSimpArgs false
/-- the cells of an array of numbers -/
def rowA (k : IntKind) (l : List Int) : List Cel := l.map fun x => .val (.int k x)
def idxA? (n : Nat) (j : Int) : Option Nat := if 0 ≤ j ∧ j < n then some j.toNat else none
def setA? (l : List Int) (x : Nat) (v : Int) : Option (List Int) := if x < l.length then some (l.set x v) else none
/-- an array's cells from one place to another -/
def cutA? (n : Nat) (l : List Int) (a b : Int) : Option (List Int) := if l.length = n ∧ 0 ≤ a ∧ a ≤ b ∧ b ≤ n then some ((l.take b.toNat).drop a.toNat) else none
section
variable {Γ : Glob} {h : Heap} {n : Nat} {env : Nat → Option AV} {p v j : Arg} {k : IntKind} {l r : List Int} {m b x : Nat}
theorem s_idxArr {i : Int} (hp : p.get Γ env = some (.c (.ref b m 0 0))) (hj : j.get Γ env = some (.c (.val (.int .i64 i)))) (hx : idxA? m i = some x) : step1 Γ ⟨env, h, n⟩ (.iaddrA m 1 p j) = some (.c (.ref b m 0 x)) := by
  unfold idxA? at hx
  split at hx
  · rename_i hc
    cases hx
    simp [step1, getI, AV.int?, hp, hj, hc]
  · cases hx
theorem s_storeArr {i : Int} (hp : p.get Γ env = some (.c (.ref b m 0 x))) (hv : v.get Γ env = some (.c (.val (.int k i)))) (hb : h b = some (.cells m [rowA k l])) (hr : setA? l x i = some r) :
    step2 Γ ⟨env, h, n⟩ (.store 1 p v) = some (none, upd h b (some (.cells m [rowA k r])), n) := by
  unfold setA? at hr
  split at hr
  · rename_i hc
    cases hr
    have e : (rowA k l).take x ++ [.val (.int k i)] ++ (rowA k l).drop (x + 1) = rowA k (l.set x i) := by
      unfold rowA
      rw [List.map_set, List.set_eq_take_append_cons_drop, if_pos (by simpa using hc)]
      simp
    have hl : x + 1 ≤ (rowA k l).length := by simp [rowA]; omega
    simp only [step2, hp, cellsOfArg, hv, Option.bind_some, AV.flat, hb, List.getElem?_cons_zero, List.length_singleton]
    rw [if_pos ⟨trivial, trivial, hl⟩, e]
    rfl
  · cases hr
theorem s_loadArr {q : Int} (hp : p.get Γ env = some (.c (.ref b m 0 x))) (hb : h b = some (.cells m [rowA k l])) (hr : l[x]? = some q) : step1 Γ ⟨env, h, n⟩ (.load false 1 p) = some (.c (.val (.int k q))) := by
  have e : ((rowA k l).drop x).head? = some (.val (.int k q)) := by rw [List.head?_drop]; simp [rowA, hr]
  simp only [step1, hp, hb, List.getElem?_cons_zero, if_true]
  cases hd : (rowA k l).drop x with
  | nil => rw [hd] at e; cases e
  | cons y r => rw [hd] at e; cases e; rfl
/-- a bound of a part: as it is told, or as it is meant -/
def bndA (Γ : Glob) (env : Nat → Option AV) (d : Int) : Option Arg → Option Int
  | none => some d
  | some x => getI Γ env x
theorem s_slArr {lo hi : Option Arg} {a1 b1 : Int} (hp : p.get Γ env = some (.c (.ref b m 0 0))) (hb : h b = some (.cells m [rowA k l])) (ha0 : bndA Γ env 0 lo = some a1) (hb0 : bndA Γ env m hi = some b1) (hr : cutA? m l a1 b1 = some r) :
    step2 Γ ⟨env, h, n⟩ (.slArr m 1 p lo hi) = some (some (.c (.own n 1 a1.toNat r.length (m - a1.toNat))), upd (upd h b none) n (some (.cells 1 ((rowA k l).map fun c => [c]))), n + 1) := by
  unfold cutA? at hr
  split at hr
  · rename_i hc
    cases hr
    have hl : (rowA k l).length = m := by simp [rowA, hc.1]
    have ha : boundI Γ env 0 b1.toNat lo = some a1.toNat := by
      cases lo with
      | none => cases ha0; rfl
      | some q =>
        have ha1 : getI Γ env q = some a1 := ha0
        unfold boundI
        simp only [ha1]
        exact if_pos (by omega)
    have hb1 : boundI Γ env m m hi = some b1.toNat := by
      cases hi with
      | none => cases hb0; rfl
      | some q =>
        have hb2 : getI Γ env q = some b1 := hb0
        unfold boundI
        simp only [hb2]
        exact if_pos (by omega)
    simp only [step2, hp, hb, hl, and_self, if_true, hb1, ha]
    have e : ((l.take b1.toNat).drop a1.toNat).length = b1.toNat - a1.toNat := by simp; omega
    rw [e]
  · cases hr
/-- the text of a part of an array of bytes -/
theorem s_ofArr {a1 b1 : Int} {z : Arg} (hz : z.get Γ env = some (.c (.own b 1 a1.toNat r.length (m - a1.toNat)))) (hb : h b = some (.cells 1 ((rowA .u8 l).map fun c => [c]))) (hr : cutA? m l a1 b1 = some r) : step1 Γ ⟨env, h, n⟩ (.ofBytes z) = some (.c (.str (byts r))) := by
  unfold cutA? at hr
  split at hr
  · rename_i hc
    cases hr
    have e : ((l.take b1.toNat).drop a1.toNat).length = b1.toNat - a1.toNat := by simp; omega
    have e1 : slContent h 1 (.own b 1 a1.toNat ((l.take b1.toNat).drop a1.toNat).length (m - a1.toNat)) = some (((l.take b1.toNat).drop a1.toNat).map fun x => [.val (.int .u8 x)]) := by
      simp only [slContent, hb]
      rw [if_pos ⟨trivial, trivial, by simp [rowA]; omega⟩, e]
      simp only [rowA, List.map_map, ← List.map_drop, ← List.map_take, List.drop_take]
      rfl
    have e2 : ∀ q : List Int, (q.map fun x => [Cel.val (.int .u8 x)]).mapM celByte = some (byts q) := by
      intro q
      induction q with
      | nil => rfl
      | cons y q ih =>
        rw [List.map_cons, List.mapM_cons, ih]
        rfl
    simp only [step1, hz, bind, e1, Option.bind_some, e2]
  · cases hr
theorem blkAs_rowA {σ : Nat → Nat} {h h' : Heap} {n' : Nat} : BlkAs σ h h' n' (.cells m [rowA k l]) (.cells m [rowA k l]) :=
  .cells (Nat.le_refl _) fun i e he => ⟨e, he, rfl, fun j x y hx hy => by
    rw [hx] at hy
    cases hy
    cases i with
    | zero =>
      cases he
      obtain ⟨q, _, rfl⟩ := List.mem_map.1 (List.mem_of_getElem? hx)
      exact .same rfl
    | succ i => simp at he⟩
theorem blkAs_rowAs {σ : Nat → Nat} {h h' : Heap} {n' : Nat} : BlkAs σ h h' n' (.cells 1 ((rowA k l).map fun c => [c])) (.cells 1 ((rowA k l).map fun c => [c])) :=
  .cells (Nat.le_refl _) fun i e he => ⟨e, he, rfl, fun j x y hx hy => by
    rw [hx] at hy
    cases hy
    rw [List.getElem?_map] at he
    obtain ⟨z, hz, rfl⟩ := Option.map_eq_some_iff.1 he
    obtain ⟨q, _, rfl⟩ := List.mem_map.1 (List.mem_of_getElem? hz)
    cases j with
    | zero => cases hx; exact .same rfl
    | succ j => simp at hx⟩
end
end Go.Proofs.YtmpdhpfimmahfaaDoorBv
