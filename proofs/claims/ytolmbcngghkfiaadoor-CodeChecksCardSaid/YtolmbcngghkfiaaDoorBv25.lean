/- The calculus: the library's contracts, met. It proves nothing of any program. -/
import Derived.Test.YtolmbcngghkfiaaDoorBv24
import Derived.Test.YtolmbcngghkfiaaDoorBv23
import Derived.Shelf.Strconv.Itoa3
import Derived.Shelf.Small.Wraps
namespace Go.Proofs.YtolmbcngghkfiaaDoorBv
open Go Go.RowKit
set_option linter.unusedVariables false
set_option linter.unusedSimpArgs false

section
variable {Γ : Glob} {E : Nat → Prop} {w w' : World} {μ κ : Nat → Nat} {h : Heap} {n : Nat}
/-- behind the heap new blocks, and draws: all that was known is known still -/
theorem grown_ok (H : HeapOK Γ E w μ κ h n) (hs : w.heap.size ≤ w'.heap.size) (hh : ∀ k, k < w.heap.size → w'.heap[k]? = w.heap[k]?) (ho : w'.os = w.os) (ht : w'.tape = w.tape) (hu : w'.output = w.output) :
    HeapOK Γ E w' μ κ h n ∧ From E (ctx E w μ κ h n) (ctx E w' μ κ h n) := by
  have L : Ctx.Le (ctx E w μ κ h n) (ctx E w' μ κ h n) := ⟨Nat.le_refl _, fun _ _ => rfl, fun _ _ => rfl, fun k hk => ⟨Nat.lt_of_lt_of_le hk.1 hs, hk.2.1, hk.2.2⟩, fun k hk => hh k hk.1⟩
  exact ⟨⟨fun k hk => Nat.lt_of_lt_of_le (H.lt k hk) hs, H.bound, H.inj, H.res, fun b x hb => (H.blk b x hb).mono L (H.bound b x hb) (hh _ (H.blk b x hb).lt), fun g => (H.glob g).mono L⟩,
    ⟨L, hs, ho, ht, hu, fun k _ hk => hh k hk⟩⟩
theorem grow_drew {k : Nat} {os : Array Obj} (e : w' = Sort.grow (w.drewN k) os) : w.heap.size ≤ w'.heap.size ∧ (∀ k, k < w.heap.size → w'.heap[k]? = w.heap[k]?) ∧ w'.os = w.os ∧ w'.tape = w.tape ∧ w'.output = w.output := by
  subst e
  refine ⟨?_, fun k hk => ?_, rfl, rfl, rfl⟩
  · show w.heap.size ≤ (w.heap ++ os).size
    rw [Array.size_append]; omega
  · show (w.heap ++ os)[k]? = w.heap[k]?
    rw [Array.getElem?_append_left hk]
end
section
variable {P : Program} {Γ : Glob} {f : FuncId} {xs : List AV} {r : AV}
/-- a contract of the library's: what it returns, and a world that has at most grown -/
theorem cpure_of (hc : ∀ (E : Nat → Prop) (w : World) (μ κ : Nat → Nat) (cargs : Array Value), HeapOK Γ E w μ κ (fun _ => none) 0 → cargs.size = xs.length →
    (∀ (i : Nat) (x : AV), xs[i]? = some x → RelV (ctx E w μ κ (fun _ => none) 0) x (cargs.getD i undef)) →
    Calls P f cargs w fun e w' => ∃ cv, e = .returned cv ∧ (∀ K, RelV K r cv) ∧ w.heap.size ≤ w'.heap.size ∧ (∀ k, k < w.heap.size → w'.heap[k]? = w.heap[k]?) ∧ w'.os = w.os ∧ w'.tape = w.tape ∧ w'.output = w.output) : CPure P Γ f xs r := by
  intro E w μ κ cargs H hsz hrel
  refine (hc E w μ κ cargs H hsz hrel).mono ?_
  rintro e w' ⟨cv, rfl, hr, h1, h2, h3, h4, h5⟩
  obtain ⟨H', F'⟩ := grown_ok H h1 h2 h3 h4 h5
  exact ⟨cv, r, _, _, μ, κ, rfl, ⟨rfl, rfl, rfl⟩, H', F', hr _⟩
theorem relC_vv {K : Ctx} {u v : Value} (h : RelC K (.val u) v) : v = u := by cases h; rfl
theorem arr1 {a : Array Value} (h : a.size = 1) : a = #[a.getD 0 undef] := by
  obtain ⟨l⟩ := a
  match l, h with
  | [x], _ => rfl
theorem arr2 {a : Array Value} (h : a.size = 2) : a = #[a.getD 0 undef, a.getD 1 undef] := by
  obtain ⟨l⟩ := a
  match l, h with
  | [x, y], _ => rfl
theorem relI {K : Ctx} {n : Int} {k : IntKind} {v : Value} (h : RelV K (.c (.val (.int k n))) v) : v = .int k n := by
  cases h with
  | c h => cases h with
    | val h => rfl
theorem relB {K : Ctx} {b : Bool} {v : Value} (h : RelV K (.c (.val (.bool b))) v) : v = .bool b := by
  cases h with
  | c h => cases h with
    | val h => rfl
theorem relS {K : Ctx} {l : List UInt8} {v : Value} (h : RelV K (.c (.str l)) v) : ∃ s : ByteArray, s.data.toList = l ∧ v = .string s := by
  cases h with
  | c h => cases h with
    | str h => exact ⟨_, h, rfl⟩
theorem strV {K : Ctx} {s : ByteArray} : RelV K (.c (.str s.data.toList)) (.string s) := .c (.str rfl)
/-- a table that is listed, as the library's contracts ask for it -/
theorem tab_is {E : Nat → Prop} {w : World} {μ κ : Nat → Nat} {h : Heap} {n : Nat} (H : HeapOK Γ E w μ κ h n) {name : String} {g : Nat} {k : IntKind} {zs : List Int} (hg : P.globalNamed name = some g) (hz : zs ≠ []) (hc : Γ g = zs.map fun z => .val (.int k z)) :
    Lib.TabIs P w name k zs := by
  obtain ⟨h1, h2⟩ := H.glob g
  rw [hc] at h1 h2
  obtain ⟨C, t, fr, hh, hsz⟩ := h2 (by simpa using hz)
  replace hh : w.heap[g]? = some (.cells C t fr) := hh
  unfold Lib.TabIs World.var?
  simp only [hg, Option.bind_some, hh]
  congr 1
  cases h1 with
  | rop f hs hcell hrel =>
    rw [List.length_map] at hsz
    apply Array.ext
    · simp [hsz]
    · intro i hi1 hi2
      have hi : i < zs.length := by omega
      have hx : (zs.map fun z => Cel.val (.int k z))[i]? = some (.val (.int k zs[i])) := by rw [List.getElem?_map, List.getElem?_eq_getElem hi]; rfl
      have e1 := hcell i _ hx
      have e2 := hrel i _ hx
      have e3 : f i = .int k zs[i] := relC_vv e2
      have e4 : w.cell? ⟨g, i, none⟩ = C[i]? := by simp [World.cell?, hh]
      have e5 : (⟨g, 0, none⟩ : Addr).add i = ⟨g, i, none⟩ := by simp [Addr.add]; omega
      rw [e5] at e1
      have e6 : w.cell? ⟨g, i, none⟩ = some (f i) := e1
      rw [e4, Array.getElem?_eq_getElem hi1, e3] at e6
      have e7 := Option.some.inj e6
      rw [e7]
      simp
end
/-! ### strconv.Itoa -/
def itoa? (n : Int) : Option (List UInt8) := if -9223372036854775808 ≤ n ∧ n ≤ 9223372036854775807 then some (Lib.itoa n) else none
theorem itoa_ok {P : Program} {ρ : Shelf.Ren} {Γ : Glob} {g : Nat} (L : LaysM.n171 P ρ) (hg : P.globalNamed "internal/strconv.uint64pow10" = some g) (hc : Γ g = Lib.pow10Tab.map fun z => .val (.int .u64 z)) {n : Int} {r : List UInt8} (h : itoa? n = some r) :
    CPure P Γ (ρ.f 171) [.c (.val (.int .i64 n))] (.c (.str r)) := by
  unfold itoa? at h
  split at h
  · rename_i hn
    cases h
    refine cpure_of fun E w μ κ cargs H hsz hrel => ?_
    have e0 := relI (hrel 0 _ rfl)
    rw [arr1 hsz, e0]
    refine (Any.strconv_Itoa L n hn.1 hn.2 w (tab_is H hg (by decide) hc)).mono ?_
    rintro e w' ⟨rfl, k, os, hw⟩
    exact ⟨_, rfl, fun K => .c (.str rfl), grow_drew hw⟩
  · cases h
end Go.Proofs.YtolmbcngghkfiaaDoorBv
