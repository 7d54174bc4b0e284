/- The calculus: arguments whose bulk is bounded. It proves nothing of any program. -/
import Derived.Test.YtkimpaokepfonaaGreatDoorBv24
namespace Go.Proofs.YtkimpaokepfonaaGreatDoorBv
open Go
set_option linter.unusedVariables false
set_option linter.unusedSimpArgs false

mutual
/-- how much a cell holds: itself, and each letter -/
def bulkC : Cel → Nat
  | .str l => l.length + 1
  | .ro _ _ xs => bulkE xs + 1
  | _ => 1
def bulkL : List Cel → Nat
  | [] => 0
  | x :: r => bulkC x + bulkL r
def bulkE : List (List Cel) → Nat
  | [] => 0
  | x :: r => bulkL x + bulkE r
end
mutual
def bulkD {H : Type} : DataW H → Nat
  | .lit (.string bytes) => bytes.length + 1
  | .slice elems spare => bulkDs elems + 1
  | .agg parts => bulkDs parts + 1
  | _ => 1
def bulkDs {H : Type} : List (DataW H) → Nat
  | [] => 0
  | d :: r => bulkD d + bulkDs r
end
def bulkV : AV → Nat
  | .c x => bulkC x
  | .agg l => bulkL l
  | .tup _ => 0
def bulkVs : List AV → Nat
  | [] => 0
  | x :: r => bulkV x + bulkVs r
theorem bulkL_append (a b : List Cel) : bulkL (a ++ b) = bulkL a + bulkL b := by
  induction a with
  | nil => simp [bulkL]
  | cons x r ih => simp only [List.cons_append, bulkL, ih]; omega
theorem bulkE_map {α : Type} (f : α → List Cel) (l : List α) : bulkE (l.map f) = (l.map fun x => bulkL (f x)).sum := by
  induction l with
  | nil => simp [bulkE]
  | cons x r ih => simp only [List.map_cons, bulkE, ih, List.sum_cons]

section
variable {H : Type} {enc : TypeId × Value → H} {P : Program} {w : World} {base : Nat} {spare : Nat → Bool} {held : Bool}
theorem allD3 {F : DataW H → Option (List Cel)} {S : List Cel → Prop} : ∀ {l : List (DataW H)}, (∀ x ∈ l, ∃ q, F x = some q ∧ S q ∧ bulkL q ≤ bulkD x) → ∃ xs, allD F l = some xs ∧ (∀ q ∈ xs, S q) ∧ bulkE xs ≤ bulkDs l ∧ xs.length = l.length
  | [], h => ⟨[], rfl, (fun q h => by cases h), by simp [bulkE], rfl⟩
  | x :: r, h => by
    obtain ⟨q, h1, h2, h3⟩ := h x (List.mem_cons_self ..)
    obtain ⟨xs, g1, g2, g3, g4⟩ := allD3 (F := F) (S := S) (l := r) fun y hy => h y (List.mem_cons_of_mem _ hy)
    refine ⟨q :: xs, by simp only [allD, h1, g1], fun y hy => ?_, ?_, by simp [g4]⟩
    · rcases List.mem_cons.1 hy with rfl | hy
      · exact h2
      · exact g2 y hy
    · simp only [bulkE, bulkDs]; omega
theorem catD3 {F : TypeId → DataW H → Option (List Cel)} {S : TypeId → List Cel → Prop} : ∀ {ts : List TypeId} {ps : List (DataW H)}, ts.length = ps.length → (∀ (i : Nat) t x, ts[i]? = some t → ps[i]? = some x → ∃ q, F t x = some q ∧ S t q ∧ bulkL q ≤ bulkD x) →
    ∃ l, catD F ts ps = some l ∧ Cat S ts l ∧ bulkL l ≤ bulkDs ps
  | [], [], _, _ => ⟨[], rfl, rfl, by simp [bulkL]⟩
  | [], _ :: _, h, _ => by simp at h
  | _ :: _, [], h, _ => by simp at h
  | t :: ts, x :: ps, hl, h => by
    obtain ⟨q, h1, h2, h3⟩ := h 0 t x rfl rfl
    obtain ⟨l, g1, g2, g3⟩ := catD3 (F := F) (S := S) (ts := ts) (ps := ps) (by simpa using hl) fun i t x ht hx => h (i + 1) t x (by simpa using ht) (by simpa using hx)
    refine ⟨q ++ l, by simp only [catD, h1, g1], ⟨q, l, rfl, h2, g2⟩, ?_⟩
    rw [bulkL_append]
    simp only [bulkDs]
    omega
theorem opens3 : ∀ (d : Nat) (t : TypeId), plainT P d t = true → ∀ (fuel : Nat) (cs : List Value) (x : DataW H) (p : List MemPlace), DataW.trod enc P w base spare held fuel t cs = some (x, p) → (∀ n ∈ x.weights P t, n ≤ reachBytes) →
    ∃ l, celsD P d t x = some l ∧ Shape P d t l ∧ bulkL l ≤ bulkD x := by
  intro d
  induction d with
  | zero => intro t h; simp [plainT] at h
  | succ d ih =>
    intro t h fuel cs x p hx hwt
    simp only [plainT] at h
    split at h
    · rename_i hu
      obtain ⟨b, rfl, e⟩ := DataW.trod_bool hu hx
      cases e
      exact ⟨[.val (.bool b)], by simp only [celsD, hu], by simp only [Shape, hu]; exact ⟨b, rfl⟩, by simp [bulkL, bulkC, bulkD]⟩
    · rename_i k hu
      obtain ⟨n, rfl, e, hw⟩ := DataW.trod_int hu hx
      cases e
      exact ⟨[.val (.int k n)], by simp only [celsD, hu], by simp only [Shape, hu]; exact ⟨n, hw, rfl⟩, by simp [bulkL, bulkC, bulkD]⟩
    · rename_i hu
      obtain ⟨s, rfl, e, hw⟩ := DataW.trod_string hu hx
      cases e
      exact ⟨_, by simp only [celsD, hu]; rfl, by simp only [Shape, hu]; exact ⟨_, hwt _ (by simp [DataW.weights]), rfl⟩, by simp [bulkL, bulkC, bulkD]⟩
    · rename_i e hu
      simp only [Bool.and_eq_true] at h
      rcases Deep.open_slice hu hx with ⟨rfl, e1⟩ | ⟨a, len, cap, m, n, D, Pl, rfl, hb, hlc, hcm, hm, e1, hel⟩
      · cases e1
        exact ⟨_, by simp only [celsD, hu]; rfl, by simp only [Shape, hu]; exact ⟨[], rfl, by simp, by simp⟩, by simp [bulkL, bulkC, bulkE, bulkD]⟩
      · cases e1
        have hlm : len ≤ m := by rw [hm]; split <;> omega
        have hwe : ∀ k, k ∈ DataW.weightsAll P e ((List.range len).map D) ++ DataW.weightsAll P e ((List.range (m - len)).map fun j => D (len + j)) → k ≤ reachBytes := fun k hk => hwt k (by simp only [DataW.weights, hu]; exact List.mem_cons_of_mem _ hk)
        have hlb : len ≤ reachBytes := by
          have h1 := hwt _ (by simp only [DataW.weights, hu]; exact List.mem_cons_self)
          simp only [List.length_map, List.length_range] at h1
          have h2 : 1 ≤ P.bytesOf e := by simpa using h.2.1
          have h3 : len * 1 ≤ (len + (m - len)) * P.bytesOf e := Nat.mul_le_mul (by omega) h2
          omega
        obtain ⟨xs, g1, g2, g3, g4⟩ := allD3 (F := celsD P d e) (S := Shape P d e) (l := (List.range len).map D) fun y hy => by
          obtain ⟨i, hi, rfl⟩ := List.mem_map.1 hy
          have hi : i < len := by simpa using hi
          obtain ⟨cs', h1, h2⟩ := hel i (by omega)
          exact ih e h.2.2 n cs' _ _ h2 (fun k hk => hwe _ (by simp only [List.mem_append]; exact .inl (weights_all (d := D i) (by rw [List.mem_map]; exact ⟨i, List.mem_range.2 hi, rfl⟩) hk)))
        refine ⟨_, by simp only [celsD, hu, g1]; rfl, ?_, ?_⟩
        · simp only [Shape, hu]
          exact ⟨xs, rfl, by rw [g4]; simpa using hlb, g2⟩
        · simp only [bulkL, bulkC, bulkD]; omega
    · rename_i fs hu
      simp only [Bool.and_eq_true] at h
      obtain ⟨xs, n, _, e1, hcl, hxl, hf⟩ := DataW.trod_struct hu hx
      cases e1
      obtain ⟨l, g1, g2, g3⟩ := catD3 (F := celsD P d) (S := Shape P d) (ts := fs.toList.map (·.type)) (ps := xs.map (·.1)) (by simp [hxl]) (fun i t y ht hy => by
        rw [List.getElem?_map] at ht hy
        obtain ⟨f, hf', rfl⟩ := Option.map_eq_some_iff.1 ht
        obtain ⟨z, hz, rfl⟩ := Option.map_eq_some_iff.1 hy
        have hfm : f ∈ fs.toList := List.mem_of_getElem? hf'
        refine ih f.type (List.all_eq_true.1 h.2 f hfm) n _ z.1 z.2 ((hf i f (by rw [← Array.getElem?_toList]; exact hf')).trans hz) (fun k hk => hwt k ?_)
        simp only [DataW.weights, hu]
        exact DataW.weights_mem_each (j := i) (t := f.type) (d := z.1) (by rw [List.getElem?_map, hf']; rfl) (by rw [List.getElem?_map, hz]; rfl) k hk)
      refine ⟨l, by simp only [celsD, hu]; exact g1, by simp only [Shape, hu]; exact g2, ?_⟩
      simp only [bulkD]; omega
    · rename_i n e hu
      simp only [Bool.and_eq_true] at h
      obtain ⟨xs, m, _, e1, hcl, hxl, hf⟩ := DataW.trod_array hu hx
      cases e1
      obtain ⟨l, g1, g2, g3⟩ := catD3 (F := celsD P d) (S := Shape P d) (ts := List.replicate n e) (ps := xs.map (·.1)) (by simp [hxl]) (fun i t y ht hy => by
        rw [List.getElem?_map] at hy
        obtain ⟨z, hz, rfl⟩ := Option.map_eq_some_iff.1 hy
        obtain ⟨hi, rfl⟩ := List.getElem?_eq_some_iff.1 ht
        rw [List.getElem_replicate]
        rw [List.length_replicate] at hi
        refine ih e h.2 m _ z.1 z.2 ((hf i hi).trans hz) (fun k hk => hwt k ?_)
        simp only [DataW.weights, hu]
        exact weights_all (d := z.1) (by rw [List.mem_map]; exact ⟨z, List.mem_of_getElem? hz, rfl⟩) hk)
      refine ⟨l, by simp only [celsD, hu]; exact g1, by simp only [Shape, hu]; exact g2, ?_⟩
      simp only [bulkD]; omega
    · cases h
end

section
variable {H : Type} {enc : TypeId × Value → H} {P : Program} {W : World}
theorem open_argU {b0 : Nat} {t : TypeId} {v : Value} {d : DataW H} {p : List MemPlace} (hp : plainT P 12 t = true) (hval : Value.okWide P W .any b0 t v) (h : DataW.Trod enc P W 0 (fun _ => true) true t v d p) (hw : ∀ n ∈ d.weights P t, n ≤ reachBytes) :
    ∃ x : AV, RelV (entry W) x v ∧ ShapeV P t x ∧ bulkV x ≤ bulkD d := by
  obtain ⟨fuel, hf⟩ := h
  obtain ⟨l, h0, h3, h4⟩ := opens3 12 t hp fuel _ _ _ hf hw
  obtain ⟨h1, h2⟩ := opensD (K := entry W) rfl entry_S 12 t hp fuel _ _ _ l h0 hf
  unfold ShapeV
  have aggc : ∀ cs, v = .agg cs → ∃ x : AV, RelV (entry W) x v ∧ (∃ l, x = .agg l ∧ Shape P 12 t l) ∧ bulkV x ≤ bulkD d := by
    rintro cs rfl
    refine ⟨.agg l, .agg (by rw [h1]; rfl) (fun i x hi => ?_), ⟨l, rfl, h3⟩, h4⟩
    have := h2 i x hi
    rwa [show (Value.agg cs).cells.toList.getD i undef = cs.getD i undef by simp [Value.cells, List.getD]] at this
  have onec : v.cells = #[v] → ∃ x : AV, RelV (entry W) x v ∧ (∃ c, x = .c c ∧ Shape P 12 t [c]) ∧ bulkV x ≤ bulkD d := by
    intro hc
    rw [hc] at h1 h2
    match l, h1 with
    | [c], _ => exact ⟨.c c, .c (h2 0 c rfl), ⟨c, rfl, h3⟩, by simpa [bulkL, bulkV] using h4⟩
  have hp' := hp
  unfold plainT at hp'
  split at hp'
  · rename_i hu
    simp only [hu]
    obtain ⟨b, rfl⟩ := WideShapes.okWide_bool hu hval
    exact onec rfl
  · rename_i k hu
    simp only [hu]
    obtain ⟨b, rfl⟩ := WideShapes.okWide_int hu hval
    exact onec rfl
  · rename_i hu
    simp only [hu]
    obtain ⟨b, rfl⟩ := WideShapes.okWide_string hu hval
    exact onec rfl
  · rename_i e hu
    simp only [hu]
    obtain ⟨a, len, cap, rfl⟩ := WideShapes.okWide_slice hu hval
    exact onec rfl
  · rename_i fs hu
    simp only [hu]
    obtain ⟨cs, rfl, _⟩ := WideShapes.okWide_struct hu hval
    exact aggc cs rfl
  · rename_i n e hu
    simp only [hu]
    simp only [Value.okWide, hu] at hval
    obtain ⟨cs, rfl, _⟩ := hval
    exact aggc cs rfl
  · cases hp'
theorem open_argsU {b0 : Nat} : ∀ {ts : List TypeId} {vs : List Value} {ds : List (DataW H)} {p : List MemPlace}, plainTs P ts = true → DataW.TrodAll enc P W 0 (fun _ => true) true ts vs ds p → (∀ n ∈ DataW.weightsEach P ts ds, n ≤ reachBytes) →
    (∀ (j : Nat) t v, ts[j]? = some t → vs[j]? = some v → Value.okWide P W .any b0 t v) →
    ∃ xs : List AV, xs.length = vs.length ∧ ts.length = vs.length ∧ (∀ (i : Nat) (x : AV), xs[i]? = some x → RelV (entry W) x (vs.getD i undef)) ∧ (∀ (i : Nat) t (x : AV), ts[i]? = some t → xs[i]? = some x → ShapeV P t x) ∧ bulkVs xs ≤ bulkDs ds
  | [], [], [], p, _, h, _, _ => ⟨[], rfl, rfl, fun i x h => by simp at h, fun i t x h => by simp at h, by simp [bulkVs]⟩
  | t :: ts, v :: vs, d :: ds, p, hp, h, hw, hv => by
    obtain ⟨p1, q1, h1, h2, rfl⟩ := h
    simp only [plainTs, List.all_cons, Bool.and_eq_true, decide_eq_true_eq] at hp
    obtain ⟨x, hx1, hx2, hx3⟩ := open_argU hp.1.1.1 (hv 0 t v rfl rfl) h1 (fun n hn => hw n (by simp only [DataW.weightsEach, List.mem_append]; exact .inl hn))
    obtain ⟨xs, e1, e0, e2, e3, e4⟩ := open_argsU (ts := ts) hp.2 h2 (fun n hn => hw n (by simp only [DataW.weightsEach, List.mem_append]; exact .inr hn)) (fun j t v hj hj' => hv (j + 1) t v (by simpa using hj) (by simpa using hj'))
    refine ⟨x :: xs, by simp [e1], by simp [e0], fun i y hy => ?_, fun i t' y ht hy => ?_, by simp only [bulkVs, bulkDs]; omega⟩
    · cases i with
      | zero => simp at hy; subst hy; exact hx1
      | succ i => exact e2 i y (by simpa using hy)
    · cases i with
      | zero => simp at ht hy; subst ht; subst hy; exact hx2
      | succ i => exact e3 i t' y (by simpa using ht) (by simpa using hy)
  | [], [], _ :: _, _, _, h, _, _ => h.elim
  | [], _ :: _, _, _, _, h, _, _ => h.elim
  | _ :: _, [], _, _, _, h, _, _ => h.elim
  | _ :: _, _ :: _, [], _, _, h, _, _ => h.elim
/-- **A law that is pure, over listed variables, at arguments of bounded bulk**. -/
theorem law_callsU {Γ : Glob} {b0 N : Nat} (hG : ∀ g, GlobOK (entry W) g (Γ g)) (hl : laidOutB P = true) {f : FuncId} {ts : List TypeId} {args : Array Value} {ds : List (DataW H)} {p : List MemPlace} {r : Bool} (hp : plainTs P ts = true) (h : DataW.TrodAll enc P W 0 (fun _ => true) true ts args.toList ds p) (hw : ∀ n ∈ DataW.weightsEach P ts ds, n ≤ reachBytes)
    (hN : bulkDs ds ≤ N) (hv : ∀ (j : Nat) t v, ts[j]? = some t → args[j]? = some v → Value.okWide P W .any b0 t v)
    (hf : ∀ xs : List AV, xs.length = ts.length → (∀ (i : Nat) t (x : AV), ts[i]? = some t → xs[i]? = some x → ShapeV P t x) → bulkVs xs ≤ N → CPure P Γ f xs (.c (.val (.bool r)))) :
    Calls P f args W fun e W' => e = .returned (.bool r) ∧ RowKit.Below W.heap.size W W' ∧ DataW.TrodAll enc P W' 0 (fun b => decide (b < W.heap.size)) true ts args.toList ds p := by
  obtain ⟨_, e4⟩ := open_args hl hp h hw (fun j t v hj hj' => hv j t v hj (by simpa using hj'))
  obtain ⟨xs, e1, e0, e2, e3, e5⟩ := open_argsU hp h hw (fun j t v hj hj' => hv j t v hj (by simpa using hj'))
  refine Calls.mono (hf xs (by omega) e3 (by omega) (fun _ => False) W (fun _ => 0) (fun _ => 0) args (entry_ok hG) (by rw [e1]; simp) (fun i x hi => ?_)) fun e W' he => ?_
  · have := e2 i x hi
    rwa [show args.toList.getD i undef = args.getD i undef by simp [List.getD]] at this
  · obtain ⟨cv, r', h', n', μ', κ', rfl, ⟨rfl, rfl, rfl⟩, H', F', hrel⟩ := he
    have := relC_bool (relV_c hrel)
    subst this
    exact ⟨rfl, from_below F', e4 W' (from_below F')⟩
end
end Go.Proofs.YtkimpaokepfonaaGreatDoorBv
