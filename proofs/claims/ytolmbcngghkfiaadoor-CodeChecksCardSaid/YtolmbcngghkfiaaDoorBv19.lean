/- The calculus: an argument of a claim, read as a value of the calculus. It proves nothing of any program. -/
import Derived.Test.YtolmbcngghkfiaaDoorBv18
import Derived.Deep.Slices
import Derived.SizedLaws
import Derived.OpenShut
import Derived.Carry
namespace Go.Proofs.YtolmbcngghkfiaaDoorBv
open Go
set_option linter.unusedVariables false
set_option linter.unusedSimpArgs false

def Cat (S : TypeId → List Cel → Prop) : List TypeId → List Cel → Prop
  | [], l => l = []
  | t :: ts, l => ∃ a b, l = a ++ b ∧ S t a ∧ Cat S ts b

/-- What the cells of a value of a type look like. -/
def Shape (P : Program) : Nat → TypeId → List Cel → Prop
  | 0, _, _ => False
  | d + 1, t, l => match P.underlying t with
    | some .bool => ∃ b, l = [.val (.bool b)]
    | some (.int k) => ∃ n, (Lit.int k n).wf = true ∧ l = [.val (.int k n)]
    | some .string => ∃ s : List UInt8, s.length ≤ reachBytes ∧ l = [.str s]
    | some (.slice e) => ∃ xs, l = [.ro false (P.cellsOf e) xs] ∧ xs.length ≤ reachBytes ∧ ∀ x ∈ xs, Shape P d e x
    | some (.struct fs) => Cat (Shape P d) (fs.toList.map (·.type)) l
    | some (.array n e) => Cat (Shape P d) (List.replicate n e) l
    | _ => False

def tiles (P : Program) (total : Nat) : Nat → List (Nat × TypeId) → Bool
  | off, [] => off == total
  | off, (o, t) :: r => o == off && tiles P total (off + P.cellsOf t) r

def plainT (P : Program) : Nat → TypeId → Bool
  | 0, _ => false
  | d + 1, t => match P.underlying t with
    | some .bool | some (.int _) | some .string => P.cellsOf t == 1
    | some (.slice e) => P.cellsOf t == 1 && (decide (1 ≤ P.bytesOf e) && plainT P d e)
    | some (.struct fs) => tiles P (P.cellsOf t) 0 (fs.toList.map fun f => (f.offset, f.type)) && fs.toList.all (fun f => plainT P d f.type)
    | some (.array n e) => tiles P (P.cellsOf t) 0 ((List.range n).map fun i => (i * P.cellsOf e, e)) && plainT P d e
    | _ => false

section
variable {H : Type} {enc : TypeId × Value → H} {P : Program} {base : Nat} {spare : Nat → Bool} {held : Bool} {K : Ctx}

theorem tiles_le {total : Nat} : ∀ (r : List (Nat × TypeId)) (off : Nat), tiles P total off r = true → off ≤ total
  | [], off, h => by simp [tiles] at h; omega
  | (o, t) :: r, off, h => by
    simp only [tiles, Bool.and_eq_true] at h
    have := tiles_le r _ h.2
    omega

theorem weights_all {e : TypeId} {d : DataW H} {k : Nat} : ∀ {l : List (DataW H)}, d ∈ l → k ∈ d.weights P e → k ∈ DataW.weightsAll P e l
  | [], h, _ => by cases h
  | x :: r, h, hk => by
    simp only [DataW.weightsAll, List.mem_append]
    rcases List.mem_cons.1 h with rfl | h
    · exact .inl hk
    · exact .inr (weights_all h hk)

/-- what is to be shown of one type -/
def Opens (enc : TypeId × Value → H) (P : Program) (base : Nat) (spare : Nat → Bool) (held : Bool) (K : Ctx) (d : Nat) (t : TypeId) : Prop :=
  ∀ (fuel : Nat) (cs : List Value) (x : DataW H × List MemPlace), DataW.trod enc P K.w base spare held fuel t cs = some x → (∀ n ∈ x.1.weights P t, n ≤ reachBytes) →
    ∃ l : List Cel, l.length = cs.length ∧ (∀ (i : Nat) (y : Cel), l[i]? = some y → RelC K y (cs.getD i undef)) ∧ Shape P d t l

theorem cat_open {d : Nat} {cs : List Value} {total : Nat} (hl : cs.length = total) : ∀ (r : List (Nat × TypeId)) (off : Nat), tiles P total off r = true → (∀ p ∈ r, Opens enc P base spare held K d p.2) →
    (∀ p ∈ r, ∃ fuel x, DataW.trod enc P K.w base spare held fuel p.2 ((cs.drop p.1).take (P.cellsOf p.2)) = some x ∧ ∀ n ∈ x.1.weights P p.2, n ≤ reachBytes) →
    ∃ l : List Cel, off + l.length = total ∧ (∀ (i : Nat) (y : Cel), l[i]? = some y → RelC K y (cs.getD (off + i) undef)) ∧ Cat (Shape P d) (r.map (·.2)) l
  | [], off, ht, _, _ => ⟨[], by simp [tiles] at ht; simpa using ht, fun i y h => by simp at h, rfl⟩
  | (o, t) :: r, off, ht, ho, hx => by
    simp only [tiles, Bool.and_eq_true, beq_iff_eq] at ht
    obtain ⟨rfl, ht⟩ := ht
    have hle := tiles_le r _ ht
    obtain ⟨b, hb1, hb2, hb3⟩ := cat_open hl r _ ht (fun p hp => ho p (List.mem_cons_of_mem _ hp)) (fun p hp => hx p (List.mem_cons_of_mem _ hp))
    obtain ⟨fuel, x, hf, hwf⟩ := hx (o, t) (List.mem_cons_self ..)
    obtain ⟨a, ha1, ha2, ha3⟩ := ho (o, t) (List.mem_cons_self ..) fuel _ x hf hwf
    have hlen : a.length = P.cellsOf t := by rw [ha1]; simp; omega
    refine ⟨a ++ b, by rw [List.length_append]; omega, fun i y hy => ?_, a, b, rfl, ha3, hb3⟩
    by_cases hi : i < a.length
    · rw [List.getElem?_append_left hi] at hy
      have := ha2 i y hy
      have e : ((cs.drop o).take (P.cellsOf t)).getD i undef = cs.getD (o + i) undef := by
        simp only [List.getD, List.getElem?_take_of_lt (show i < P.cellsOf t by omega), List.getElem?_drop]
      rwa [e] at this
    · rw [List.getElem?_append_right (by omega)] at hy
      have := hb2 _ y hy
      rwa [show o + P.cellsOf t + (i - a.length) = o + i by omega] at this

theorem opens (hbare : K.bare = K) (hS : ∀ k, k < K.w.heap.size → K.S k) : ∀ (d : Nat) (t : TypeId), plainT P d t = true → Opens enc P base spare held K d t := by
  intro d
  induction d with
  | zero => intro t h; simp [plainT] at h
  | succ d ih =>
    intro t h fuel cs x hx hwt
    simp only [plainT] at h
    split at h
    · rename_i hu
      obtain ⟨b, rfl, _⟩ := DataW.trod_bool hu hx
      refine ⟨[.val (.bool b)], rfl, fun i y hy => ?_, by simp only [Shape, hu]; exact ⟨b, rfl⟩⟩
      cases i with
      | zero => simp at hy; subst hy; exact .val rfl
      | succ i => simp at hy
    · rename_i k hu
      obtain ⟨n, rfl, _, hw⟩ := DataW.trod_int hu hx
      refine ⟨[.val (.int k n)], rfl, fun i y hy => ?_, by simp only [Shape, hu]; exact ⟨n, hw, rfl⟩⟩
      cases i with
      | zero => simp at hy; subst hy; exact .val rfl
      | succ i => simp at hy
    · rename_i hu
      obtain ⟨s, rfl, hxe, hw⟩ := DataW.trod_string hu hx
      subst hxe
      refine ⟨[.str s.data.toList], rfl, fun i y hy => ?_, by simp only [Shape, hu]; exact ⟨_, hwt _ (by simp [DataW.weights]), rfl⟩⟩
      cases i with
      | zero => simp at hy; subst hy; exact .str rfl
      | succ i => simp at hy
    · rename_i e hu
      simp only [Bool.and_eq_true] at h
      rcases Deep.open_slice hu hx with ⟨rfl, _⟩ | ⟨a, len, cap, m, n, D, Pl, rfl, hb, hlc, hcm, hm, hxe, hel⟩
      · refine ⟨[.ro false (P.cellsOf e) []], rfl, fun i y hy => ?_, by simp only [Shape, hu]; exact ⟨[], rfl, by simp, by simp⟩⟩
        cases i with
        | zero =>
          simp at hy; subst hy
          exact .ro (A := none) (xs := []) (c := 0) (fun _ _ => undef) (fun q => by cases q) (Nat.le_refl _) (fun _ => rfl) (fun i e h => by simp at h) (fun ad h => by cases h) (fun i e h => by simp at h) (fun i e h => by simp at h)
        | succ i => simp at hy
      · have hlm : len ≤ m := by rw [hm]; split <;> omega
        subst hxe
        have hwe : ∀ k, k ∈ DataW.weightsAll P e ((List.range len).map D) ++ DataW.weightsAll P e ((List.range (m - len)).map fun j => D (len + j)) → k ≤ reachBytes := fun k hk => hwt k (by simp only [DataW.weights, hu]; exact List.mem_cons_of_mem _ hk)
        have hlb : len ≤ reachBytes := by
          have h1 := hwt _ (by simp only [DataW.weights, hu]; exact List.mem_cons_self)
          simp only [List.length_map, List.length_range] at h1
          have h2 : 1 ≤ P.bytesOf e := by simpa using h.2.1
          have h3 : len * 1 ≤ (len + (m - len)) * P.bytesOf e := Nat.mul_le_mul (by omega) h2
          omega
        have each : ∀ i, i < len → ∃ p : List Cel × List Value, p.1.length = P.cellsOf e ∧ (∀ j, j < P.cellsOf e → K.w.cell? (a.add (i * P.cellsOf e + j)) = some (p.2.getD j undef)) ∧
            (∀ (j : Nat) (y : Cel), p.1[j]? = some y → RelC K y (p.2.getD j undef)) ∧ Shape P d e p.1 := by
          intro i hi
          obtain ⟨cs', h1, h2⟩ := hel i (by omega)
          obtain ⟨_, hl', hc'⟩ := World.cells?_some h1
          obtain ⟨l, g1, g2, g3⟩ := ih e h.2.2 n cs' _ h2 (fun k hk => hwe _ (by simp only [List.mem_append]; exact .inl (weights_all (d := D i) (by rw [List.mem_map]; exact ⟨i, List.mem_range.2 hi, rfl⟩) hk)))
          refine ⟨(l, cs'), by rw [g1, hl'], fun j hj => ?_, g2, g3⟩
          have := hc' j hj
          rw [Deep.add_add] at this
          rw [this, List.getD, List.getElem?_eq_getElem (by omega)]
          rfl
        obtain ⟨F, hF⟩ := Deep.choose_lt (α := List Cel × List Value) each
        have hxs : ∀ (i : Nat) (q : List Cel), ((List.range len).map fun i => (F i).1)[i]? = some q → i < len ∧ q = (F i).1 := by
          intro i q hq
          rw [List.getElem?_map] at hq
          obtain ⟨k, hk, rfl⟩ := Option.map_eq_some_iff.1 hq
          obtain ⟨hlt, rfl⟩ := List.getElem?_eq_some_iff.1 hk
          simp only [List.length_range] at hlt
          exact ⟨hlt, by simp⟩
        have hlenx : ((List.range len).map fun i => (F i).1).length = len := by simp
        refine ⟨[.ro false (P.cellsOf e) ((List.range len).map fun i => (F i).1)], rfl, fun i y hy => ?_, ?_⟩
        · cases i with
          | zero =>
            simp only [List.getElem?_cons_zero, Option.some.injEq] at hy
            subst hy
            have hr := RelC.ro (K := K) (nl := false) (sz := P.cellsOf e) (c := cap) (xs := (List.range len).map fun i => (F i).1) (A := some a) (fun i j => (F i).2.getD j undef) (fun q => by cases q) (by rw [hlenx]; exact hlc) (fun h => by cases h)
              (fun i q hq => by obtain ⟨h1, rfl⟩ := hxs i q hq; exact (hF i h1).1)
              (fun ad had hne hsz => by
                cases had
                have hl0 : 0 < len := by
                  rcases Nat.eq_zero_or_pos len with h0 | h0
                  · exact absurd (by rw [h0]; rfl) hne
                  · exact h0
                have hc := (hF 0 hl0).2.1 0 (by omega)
                refine hS _ ?_
                rcases Nat.lt_or_ge a.block K.w.heap.size with h | h
                · exact h
                · unfold World.cell? at hc
                  rw [add_block] at hc
                  rw [Array.getElem?_eq_none h] at hc
                  cases hc)
              (fun i q hq j y hy => by
                obtain ⟨h1, rfl⟩ := hxs i q hq
                exact (hF i h1).2.1 j (by rw [← (hF i h1).1]; exact (List.getElem?_eq_some_iff.1 hy).1))
              (fun i q hq j y hy => by
                obtain ⟨h1, rfl⟩ := hxs i q hq
                rw [hbare]; exact (hF i h1).2.2.1 j y hy)
            rw [hlenx] at hr
            exact hr
          | succ i => simp at hy
        · simp only [Shape, hu]
          refine ⟨_, rfl, by rw [hlenx]; exact hlb, fun q hq => ?_⟩
          obtain ⟨i, hi, rfl⟩ := List.mem_map.1 hq
          exact (hF i (List.mem_range.1 hi)).2.2.2
    · rename_i fs hu
      simp only [Bool.and_eq_true] at h
      obtain ⟨xs, n, _, hxe, hl, hxl, hf⟩ := DataW.trod_struct hu hx
      subst hxe
      obtain ⟨l, h1, h2, h3⟩ := cat_open (K := K) (enc := enc) (base := base) (spare := spare) (held := held) (d := d) hl (fs.toList.map fun f => (f.offset, f.type)) 0 h.1 (fun p hp => by
          obtain ⟨f, hfm, rfl⟩ := List.mem_map.1 hp
          exact ih f.type (List.all_eq_true.1 h.2 f hfm)) (fun p hp => by
          obtain ⟨f, hfm, rfl⟩ := List.mem_map.1 hp
          obtain ⟨i, hi, rfl⟩ := List.getElem_of_mem hfm
          have := hf i fs.toList[i] (by rw [← Array.getElem?_toList]; exact List.getElem?_eq_getElem hi)
          have hi' : i < xs.length := by rw [hxl]; simpa using hi
          refine ⟨n, xs[i], ?_, fun k hk => hwt k ?_⟩
          · rw [this]
            exact List.getElem?_eq_getElem _
          · simp only [DataW.weights, hu]
            exact DataW.weights_mem_each (j := i) (t := fs.toList[i].type) (d := xs[i].1) (by rw [List.getElem?_map, List.getElem?_eq_getElem hi]; rfl) (by rw [List.getElem?_map, List.getElem?_eq_getElem hi']; rfl) k hk)
      refine ⟨l, by omega, fun i y hy => by have := h2 i y hy; rwa [Nat.zero_add] at this, ?_⟩
      simp only [Shape, hu]
      rw [List.map_map] at h3
      exact h3
    · rename_i n e hu
      simp only [Bool.and_eq_true] at h
      have harr : cs.length = P.cellsOf t ∧ ∀ i, i < n → ∃ fuel x, DataW.trod enc P K.w base spare held fuel e ((cs.drop (i * P.cellsOf e)).take (P.cellsOf e)) = some x ∧ ∀ n ∈ x.1.weights P e, n ≤ reachBytes := by
        obtain ⟨xs, m, _, hxe, hcl, hxl, hf⟩ := DataW.trod_array hu hx
        subst hxe
        refine ⟨hcl, fun i hi => ?_⟩
        have hi' : i < xs.length := by omega
        refine ⟨m, xs[i], (hf i hi).trans (List.getElem?_eq_getElem hi'), fun k hk => hwt k ?_⟩
        simp only [DataW.weights, hu]
        exact weights_all (d := xs[i].1) (by rw [List.mem_map]; exact ⟨xs[i], List.getElem_mem hi', rfl⟩) hk
      obtain ⟨l, h1, h2, h3⟩ := cat_open (K := K) (enc := enc) (base := base) (spare := spare) (held := held) (d := d) harr.1 ((List.range n).map fun i => (i * P.cellsOf e, e)) 0 h.1 (fun p hp => by
          obtain ⟨i, _, rfl⟩ := List.mem_map.1 hp
          exact ih e h.2) (fun p hp => by
          obtain ⟨i, hi, rfl⟩ := List.mem_map.1 hp
          exact harr.2 i (List.mem_range.1 hi))
      refine ⟨l, by omega, fun i y hy => by have := h2 i y hy; rwa [Nat.zero_add] at this, ?_⟩
      simp only [Shape, hu]
      have e1 : ((List.range n).map fun i => (i * P.cellsOf e, e)).map (·.2) = List.replicate n e := by
        rw [List.map_map]
        apply List.ext_getElem <;> simp
      rw [e1] at h3
      exact h3
    · cases h

end
end Go.Proofs.YtolmbcngghkfiaaDoorBv
