/- slices.Values and slices.Sorted over it, at this program: the worked proofs of the library's iterators over a slice, turned to this program's functions. -/
import Derived.Test.YtoomjemboekooaaHSort1
import Derived.Test.YtoomjemboekooaaBv30
import Derived.Test.YtoomjemboekooaaShelf
import Derived.Test.YtoomjemboekooaaRows
import Derived.WalkKit
import Derived.OwnWalkIn
import Derived.LoopNIn
import Derived.LoopIn
namespace Go.Proofs
open Go
def Try.sortedZ_ren : Go.Shelf.Ren := ⟨fun | 6 => 28 | 8 => 59 | 9 => 51 | 11 => 86 | n => n, fun | 0 => 0 | 24 => 54 | 26 => 3 | 28 => 72 | 33 => 92 | n => n, fun | n => n⟩
theorem Try.sortedZ : Go.Proofs.SlLaysZI.n6 Try.prog Try.sortedZ_ren := {
  mixed := by kernel_rfl
  f6 := ⟨"slices.Sorted[int]", by decide, Try.func28.trans (congrArg some (by kernel_rfl))⟩
  f8 := ⟨"slices.Collect[int]", by decide, Try.func59.trans (congrArg some (by kernel_rfl))⟩
  f11 := ⟨"slices.AppendSeq[[]int,int]", by decide, Try.func86.trans (congrArg some (by kernel_rfl))⟩
  t0 := Try.underlying0
  a0 := Try.isAgg0
  z0 := Try.sizeOf0
  v0 := Try.zeroValue0
  t24 := Try.underlying54
  a24 := Try.isAgg54
  z24 := Try.sizeOf54
  v24 := Try.zeroValue54
  t26 := Try.underlying3
  a26 := Try.isAgg3
  z26 := Try.sizeOf3
  v26 := Try.zeroValue3
  t28 := Try.underlying72
  a28 := Try.isAgg72
  z28 := Try.sizeOf72
  v28 := Try.zeroValue72
  i26 := by kernel_rfl }
namespace YtoomjemboekooaaBv
open Go.Proofs Go.RowKit Go.Maps Go.Sort Go.Shelf
set_option linter.unusedVariables false
set_option linter.unusedSimpArgs false
attribute [local go_sem] Oper.semAt_some
theorem sortsZ (m : Nat) : AnyZI.SortsIn Try.prog Try.sortedZ_ren Fence.wide m :=
  ⟨fun blk off cap ss W hH hblk hsz => callsIn_wide.2 (Any.slices_Sort_int Try.lays189 blk off cap ss W hH hblk hsz),
   fun p cap W => callsIn_wide.2 (Any.slices_Sort_int_none Try.lays189 p cap W)⟩

def upto {α : Type} (f : Nat → α) (k : Nat) : List α := (List.range k).map f
theorem upto_succ {α : Type} (f : Nat → α) (k : Nat) : upto f (k + 1) = upto f k ++ [f k] := by simp [upto, List.range_succ]
theorem upto_length {α : Type} (f : Nat → α) (k : Nat) : (upto f k).length = k := by simp [upto]
theorem upto_all (zs : List Int) : upto (fun j => zs[j]?.getD 0) zs.length = zs := by
  apply List.ext_getElem
  · simp [upto]
  · intro i h1 h2
    simp [upto, h2]

set_option maxRecDepth 100000 in
set_option maxHeartbeats 2000000 in
/-- slices.Values's closure, for every loop body that keeps what lay below n₀. -/
theorem iter_in (W0 : World) (n : Nat) (hn : 1 ≤ n) (l n₀ : Nat) (ab ad : Addr) (len cap : Nat) (zs : List Int) (hreach : len * 8 ≤ 140737488351232) (hb : ad.block < n₀) (J : List Int → World → Prop) (hJb : ∀ s X, J s X → Below n₀ W0 X)
    (hY : ∀ pre x W, J pre W → pre.length < len → YieldAt Fence.wide (n - 1) Try.prog l #[encZ x] W fun e W' => e = .returned (.bool true) ∧ J (pre ++ [x]) W' ∧ KeepsWalks W W')
    (W : World) (hBs : W.cell? ab = some (.slice (some ad) len cap)) (hc : ∀ j, j < len → W0.cell? (ad.add j) = some (.int .i64 (zs[j]?.getD 0))) (h0 : J [] W) :
    CallsIn Fence.wide n Try.prog 60 #[.func (.yield l) #[] #[], .pointer (some ab)] W fun e W' => (∃ v, e = .returned v) ∧ ∃ ys, ys = upto (fun j => zs[j]?.getD 0) len ∧ J ys W' := by
  have h7 : Fence.wide.fn 60 := trivial
  have hro : Fence.wide.round = none := rfl
  refine callsIn_of_wp Try.func60 rfl h7 ?_ hro
  simp only [Try.ntmps60, List.size_toArray, List.length_cons, List.length_nil, Nat.reduceAdd, Nat.reduceSub, Array.replicate_succ, Array.replicate_zero, List.push_toArray, List.append_toArray, List.nil_append, List.cons_append]
  gi_wp2
  gi_loopw [7] (fun i wr => ∃ k : Nat, k ≤ len ∧ i = .int .i64 k ∧ J (upto (fun j => zs[j]?.getD 0) k) wr)
    (fun i _ => len - (intOf i).toNat)
  case atStart => exact ⟨0, Nat.zero_le _, rfl, h0⟩
  case round =>
    obtain ⟨k, hk, rfl, hJs⟩ := hrel
    have hnx := hJb _ _ hJs
    by_cases hlt : k < len
    · have hcx : wr.cell? (ad.add k) = some (.int .i64 (zs[k]?.getD 0)) := (hnx.cell (p := ad.add k) (by rw [add_block]; exact hb)).trans (hc k hlt)
      obtain ⟨fn, tmps, assign, body, hy, hR⟩ := hY _ (zs[k]?.getD 0) wr hJs (by rw [upto_length]; exact hlt)
      gi_wp2
      refine hR.mono ?_
      rintro e W3 ⟨rfl, hJ3, hk3⟩
      gi_wp2
      go_roundw
      case rel => exact ⟨k + 1, by omega, by simp, by rw [upto_succ]; exact hJ3⟩
      case measure => simp [intOf]; omega
    · obtain rfl : k = len := by omega
      gi_wp2
      go_end0
      exact ⟨⟨_, rfl⟩, _, rfl, hJs⟩

set_option maxRecDepth 100000 in
set_option maxHeartbeats 1000000 in
/-- .. at a slice without elements: no round. -/
theorem iter_nil_in (n : Nat) (l : Nat) (ab : Addr) (A : Option Addr) (cap : Nat) (J : List Int → World → Prop) (W : World) (hBs : W.cell? ab = some (.slice A 0 cap)) (h0 : J [] W) :
    CallsIn Fence.wide n Try.prog 60 #[.func (.yield l) #[] #[], .pointer (some ab)] W fun e W' => (∃ v, e = .returned v) ∧ J [] W' := by
  refine callsIn_of_wp Try.func60 rfl trivial ?_ rfl
  simp only [Try.ntmps60, List.size_toArray, List.length_cons, List.length_nil, Nat.reduceAdd, Nat.reduceSub, Array.replicate_succ, Array.replicate_zero, List.push_toArray, List.append_toArray, List.nil_append, List.cons_append]
  gi_wp2
  gi_loopw [7] (fun i wr => i = .int .i64 0 ∧ J [] wr) (fun _ _ => 0)
  case atStart => exact ⟨rfl, h0⟩
  case round =>
    obtain ⟨rfl, hJs⟩ := hrel
    gi_wp2
    go_end0
    exact ⟨⟨_, rfl⟩, hJs⟩

set_option maxHeartbeats 1000000 in
/-- slices.Values: the slice is boxed; the function value holds the box. -/
theorem values_in (a : Option Addr) (len cap : Nat) (w : World) :
    Calls Try.prog 29 #[.slice a len cap] w fun e w' => e = .returned (.func (.func 60) #[] #[.pointer (some ⟨w.heap.size, 0, none⟩)]) ∧ w' = w.alloc (.cells #[.slice a len cap] 54) := by
  refine (callsIn_wide (n := 1)).1 ?_
  refine callsIn_of_wp Try.func29 rfl trivial ?_ rfl
  simp only [Try.ntmps29, List.size_toArray, List.length_cons, List.length_nil, Nat.reduceAdd, Nat.reduceSub, Array.replicate_succ, Array.replicate_zero, List.push_toArray, List.append_toArray, List.nil_append, List.cons_append]
  gi_wp2
  go_ret
  exact ⟨rfl, rfl⟩

/-- What the slice holds: it is told by its cells in w. -/
theorem iter_gives (n : Nat) (hn : 1 ≤ n) (ab : Addr) (A : Option Addr) (cap : Nat) (zs : List Int) (hreach : zs.length * 8 ≤ 140737488351232) (w : World) (hab : ab.block < w.heap.size)
    (hBs : w.cell? ab = some (.slice A zs.length cap)) (hA : ∀ j, j < zs.length → (A.bind fun ad => w.cell? (ad.add j)) = some (.int .i64 (zs[j]?.getD 0))) (hAb : ∀ ad, A = some ad → zs ≠ [] → ad.block < w.heap.size) :
    SeqB Fence.wide n Try.prog 60 #[.pointer (some ab)] encZ (fun ys => ys = zs) zs.length w := fun l J W hW hJ hB hY h0 => by
  have hBs' := (hW.cell (p := ab) hab).trans hBs
  by_cases hz : zs = []
  · subst hz
    refine (iter_nil_in n l ab A cap J W hBs' h0).mono ?_
    rintro e W' ⟨he, hj⟩
    exact ⟨he, [], rfl, hj⟩
  · cases A with
    | none =>
      have hl : 0 < zs.length := List.length_pos_iff.2 hz
      have := hA 0 hl
      cases this
    | some ad =>
      refine (iter_in w n hn l w.heap.size ab ad zs.length cap zs hreach (hAb ad rfl hz) J hB hY W hBs' (fun j hj => hA j hj) h0).mono ?_
      rintro e W' ⟨he, ys, rfl, hj⟩
      exact ⟨he, _, upto_all zs, hj⟩

/-- slices.Sorted(slices.Values(zs)): a new slice, sorted. -/
theorem sorted_calls (ab : Addr) (A : Option Addr) (cap : Nat) (zs : List Int) (hreach : zs.length * 8 ≤ 140737488351232) (w : World) (hab : ab.block < w.heap.size)
    (hBs : w.cell? ab = some (.slice A zs.length cap)) (hA : ∀ j, j < zs.length → (A.bind fun ad => w.cell? (ad.add j)) = some (.int .i64 (zs[j]?.getD 0))) (hAb : ∀ ad, A = some ad → zs ≠ [] → ad.block < w.heap.size) :
    Calls Try.prog 28 #[.func (.func 60) #[] #[.pointer (some ab)]] w fun e w' => ∃ v : Value, e = .returned v ∧
      w'.ownsRow w.heap.size 3 1 v zs.length ((zs.mergeSort (fun x y => decide (x ≤ y))).map encZ) ∧ (v = .slice none 0 0 ↔ zs = []) ∧ RowKit.Below w.heap.size w w' := by
  refine (callsIn_wide (n := 5)).1 ?_
  have hseq := iter_gives (5 - 1 - 1 - 1) (by omega) ab A cap zs hreach w hab hBs hA hAb
  have cS := sortedB Try.sortedZ Fence.wide 5 trivial trivial trivial trivial rfl (by omega) (sortsZ _) (enters_of Try.func51 (by kernel_rfl) rfl) 60 #[.pointer (some ab)] trivial (enters_of Try.func60 (by kernel_rfl) rfl) (fun ys => ys = zs) zs.length (by unfold maxLen; omega) (by omega) w (fun ss h => by rw [h]; exact Nat.le_refl _) hseq
  refine cS.mono ?_
  rintro e w' ⟨v, ss, rfl, rfl, hrow, hnil, hb⟩
  exact ⟨v, rfl, hrow, hnil, hb⟩
end YtoomjemboekooaaBv
end Go.Proofs
