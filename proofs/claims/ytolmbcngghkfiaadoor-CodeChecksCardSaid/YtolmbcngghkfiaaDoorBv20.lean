/- The calculus: from a pure function's contract to a claim's call, over whatever memory. It proves nothing of any program. -/
import Derived.Test.YtolmbcngghkfiaaDoorBv19
namespace Go.Proofs.YtolmbcngghkfiaaDoorBv
open Go
set_option linter.unusedVariables false

def ShapeV (P : Program) (t : TypeId) (v : AV) : Prop := match P.underlying t with
  | some (.struct _) | some (.array _ _) => ∃ l, v = .agg l ∧ Shape P 12 t l
  | _ => ∃ c, v = .c c ∧ Shape P 12 t [c]

section
variable {P : Program} {d : Nat} {t : TypeId} {l : List Cel}
theorem Shape_bool (hu : P.underlying t = some .bool) : Shape P (d + 1) t l = ∃ b, l = [.val (.bool b)] := by rw [Shape, hu]
theorem Shape_int {k : IntKind} (hu : P.underlying t = some (.int k)) : Shape P (d + 1) t l = ∃ n, (Lit.int k n).wf = true ∧ l = [.val (.int k n)] := by rw [Shape, hu]
theorem Shape_string (hu : P.underlying t = some .string) : Shape P (d + 1) t l = ∃ s : List UInt8, s.length ≤ reachBytes ∧ l = [.str s] := by rw [Shape, hu]
theorem Shape_slice {e : TypeId} (hu : P.underlying t = some (.slice e)) : Shape P (d + 1) t l = ∃ xs, l = [.ro false (P.cellsOf e) xs] ∧ xs.length ≤ reachBytes ∧ ∀ x ∈ xs, Shape P d e x := by rw [Shape, hu]
theorem Shape_struct {fs : Array Field} (hu : P.underlying t = some (.struct fs)) : Shape P (d + 1) t l = Cat (Shape P d) (fs.toList.map (·.type)) l := by rw [Shape, hu]
theorem Shape_array {n : Nat} {e : TypeId} (hu : P.underlying t = some (.array n e)) : Shape P (d + 1) t l = Cat (Shape P d) (List.replicate n e) l := by rw [Shape, hu]
theorem ShapeV_struct {fs : Array Field} {v : AV} (hu : P.underlying t = some (.struct fs)) : ShapeV P t v = ∃ l, v = .agg l ∧ Shape P 12 t l := by rw [ShapeV, hu]
theorem ShapeV_array {n : Nat} {e : TypeId} {v : AV} (hu : P.underlying t = some (.array n e)) : ShapeV P t v = ∃ l, v = .agg l ∧ Shape P 12 t l := by rw [ShapeV, hu]
theorem ShapeV_bool {v : AV} (hu : P.underlying t = some .bool) : ShapeV P t v = ∃ c, v = .c c ∧ Shape P 12 t [c] := by rw [ShapeV, hu]
theorem ShapeV_int {k : IntKind} {v : AV} (hu : P.underlying t = some (.int k)) : ShapeV P t v = ∃ c, v = .c c ∧ Shape P 12 t [c] := by rw [ShapeV, hu]
theorem ShapeV_string {v : AV} (hu : P.underlying t = some .string) : ShapeV P t v = ∃ c, v = .c c ∧ Shape P 12 t [c] := by rw [ShapeV, hu]
theorem ShapeV_slice {e : TypeId} {v : AV} (hu : P.underlying t = some (.slice e)) : ShapeV P t v = ∃ c, v = .c c ∧ Shape P 12 t [c] := by rw [ShapeV, hu]
end

section
variable {H : Type} {enc : TypeId × Value → H} {P : Program} {W : World}

/-- the memory at the entry, all of it only read -/
abbrev entry (W : World) : Ctx := ctx (fun _ => False) W (fun _ => 0) (fun _ => 0) (fun _ => none) 0

theorem entry_S (k : Nat) (h : k < W.heap.size) : (entry W).S k := ⟨h, fun h => h, fun b x h => by cases h⟩

theorem entry_ok {Γ : Glob} (hg : ∀ g, GlobOK (entry W) g (Γ g)) : HeapOK Γ (fun _ => False) W (fun _ => 0) (fun _ => 0) (fun _ => none) 0 :=
  ⟨fun k h => h.elim, fun b x h => (by cases h), fun b b' x x' h => (by cases h), fun b x h => (by cases h), fun b x h => (by cases h), hg⟩

theorem glob_none (g : Nat) : GlobOK (entry W) g [] :=
  ⟨.rop (fun _ => undef) (fun h => absurd rfl h) (fun j x h => by simp at h) (fun j x h => by simp at h), fun h => absurd rfl h⟩

theorem from_below {W' : World} {μ κ : Nat → Nat} {h : Heap} {n : Nat} (F : From (fun _ => False) (entry W) (ctx (fun _ => False) W' μ κ h n)) : RowKit.Below W.heap.size W W' :=
  ⟨F.os, F.tape, F.output, F.size, fun k hk => F.le.heap k (entry_S k hk)⟩

theorem open_arg {b0 : Nat} {t : TypeId} {v : Value} {d : DataW H} {p : List MemPlace} (hp : plainT P 12 t = true) (hval : Value.okWide P W .any b0 t v) (h : DataW.Trod enc P W 0 (fun _ => true) true t v d p) (hw : ∀ n ∈ d.weights P t, n ≤ reachBytes) :
    ∃ x : AV, RelV (entry W) x v ∧ ShapeV P t x := by
  obtain ⟨fuel, hf⟩ := h
  obtain ⟨l, h1, h2, h3⟩ := opens (K := entry W) rfl entry_S 12 t hp fuel _ _ hf hw
  unfold ShapeV
  have aggc : ∀ cs, v = .agg cs → ∃ x : AV, RelV (entry W) x v ∧ ∃ l, x = .agg l ∧ Shape P 12 t l := by
    rintro cs rfl
    refine ⟨.agg l, .agg (by rw [h1]; rfl) (fun i x hi => ?_), l, rfl, h3⟩
    have := h2 i x hi
    rwa [show (Value.agg cs).cells.toList.getD i undef = cs.getD i undef by simp [Value.cells, List.getD]] at this
  have onec : v.cells = #[v] → ∃ x : AV, RelV (entry W) x v ∧ ∃ c, x = .c c ∧ Shape P 12 t [c] := by
    intro hc
    rw [hc] at h1 h2
    match l, h1 with
    | [c], _ => exact ⟨.c c, .c (h2 0 c rfl), c, rfl, h3⟩
  have hp' := hp
  unfold plainT at hp'
  split at hp'
  · rename_i hu
    simp only [hu]
    obtain ⟨b, rfl⟩ := WideShapes.okWide_bool hu hval
    exact onec rfl
  · rename_i k hu
    simp only [hu]
    obtain ⟨b, rfl⟩ := WideShapes.okWide_int hu hval
    exact onec rfl
  · rename_i hu
    simp only [hu]
    obtain ⟨b, rfl⟩ := WideShapes.okWide_string hu hval
    exact onec rfl
  · rename_i e hu
    simp only [hu]
    obtain ⟨a, len, cap, rfl⟩ := WideShapes.okWide_slice hu hval
    exact onec rfl
  · rename_i fs hu
    simp only [hu]
    obtain ⟨cs, rfl, _⟩ := WideShapes.okWide_struct hu hval
    exact aggc cs rfl
  · rename_i n e hu
    simp only [hu]
    simp only [Value.okWide, hu] at hval
    obtain ⟨cs, rfl, _⟩ := hval
    exact aggc cs rfl
  · cases hp'

/-- the arguments' types are of the kind that is read here -/
def plainTs (P : Program) (ts : List TypeId) : Bool := ts.all fun t => plainT P 12 t && P.readableRec t && decide (t < P.types.size)

theorem open_args {b0 : Nat} (hl : laidOutB P = true) : ∀ {ts : List TypeId} {vs : List Value} {ds : List (DataW H)} {p : List MemPlace}, plainTs P ts = true → DataW.TrodAll enc P W 0 (fun _ => true) true ts vs ds p → (∀ n ∈ DataW.weightsEach P ts ds, n ≤ reachBytes) →
    (∀ (j : Nat) t v, ts[j]? = some t → vs[j]? = some v → Value.okWide P W .any b0 t v) →
    (∃ xs : List AV, xs.length = vs.length ∧ ts.length = vs.length ∧ (∀ (i : Nat) (x : AV), xs[i]? = some x → RelV (entry W) x (vs.getD i undef)) ∧ ∀ (i : Nat) t (x : AV), ts[i]? = some t → xs[i]? = some x → ShapeV P t x) ∧
    ∀ W', RowKit.Below W.heap.size W W' → DataW.TrodAll enc P W' 0 (fun b => decide (b < W.heap.size)) true ts vs ds p
  | [], [], [], p, _, h, _, _ => ⟨⟨[], rfl, rfl, fun i x h => by simp at h, fun i t x h => by simp at h⟩, fun W' _ => h⟩
  | t :: ts, v :: vs, d :: ds, p, hp, h, hw, hv => by
    have hlt := h.lt
    obtain ⟨p1, q1, h1, h2, rfl⟩ := h
    simp only [plainTs, List.all_cons, Bool.and_eq_true, decide_eq_true_eq] at hp
    obtain ⟨x, hx1, hx2⟩ := open_arg hp.1.1.1 (hv 0 t v rfl rfl) h1 (fun n hn => hw n (by simp only [DataW.weightsEach, List.mem_append]; exact .inl hn))
    obtain ⟨⟨xs, e1, e0, e2, e3⟩, e4⟩ := open_args hl (ts := ts) hp.2 h2 (fun n hn => hw n (by simp only [DataW.weightsEach, List.mem_append]; exact .inr hn)) (fun j t v hj hj' => hv (j + 1) t v (by simpa using hj) (by simpa using hj'))
    refine ⟨⟨x :: xs, by simp [e1], by simp [e0], fun i y hy => ?_, fun i t' y ht hy => ?_⟩, fun W' hb => ⟨p1, q1, RowKit.Below.trod hl hp.1.1.2 hp.1.2 h1 hb (fun y hy => hlt y (List.mem_append_left _ hy)), e4 W' hb, rfl⟩⟩
    · cases i with
      | zero => simp at hy; subst hy; exact hx1
      | succ i => exact e2 i y (by simpa using hy)
    · cases i with
      | zero => simp at ht hy; subst ht; subst hy; exact hx2
      | succ i => exact e3 i t' y (by simpa using ht) (by simpa using hy)
  | [], [], _ :: _, _, _, h, _, _ => h.elim
  | [], _ :: _, _, _, _, h, _, _ => h.elim
  | _ :: _, [], _, _, _, h, _, _ => h.elim
  | _ :: _, _ :: _, [], _, _, h, _, _ => h.elim

/-- **A law that is pure**: from its contract for whatever its arguments read as. -/
theorem law_calls {b0 : Nat} (hl : laidOutB P = true) {f : FuncId} {ts : List TypeId} {args : Array Value} {ds : List (DataW H)} {p : List MemPlace} {r : Bool} (hp : plainTs P ts = true) (h : DataW.TrodAll enc P W 0 (fun _ => true) true ts args.toList ds p) (hw : ∀ n ∈ DataW.weightsEach P ts ds, n ≤ reachBytes)
    (hv : ∀ (j : Nat) t v, ts[j]? = some t → args[j]? = some v → Value.okWide P W .any b0 t v)
    (hf : ∀ xs : List AV, xs.length = ts.length → (∀ (i : Nat) t (x : AV), ts[i]? = some t → xs[i]? = some x → ShapeV P t x) → CPure P (fun _ => []) f xs (.c (.val (.bool r)))) :
    Calls P f args W fun e W' => e = .returned (.bool r) ∧ RowKit.Below W.heap.size W W' ∧ DataW.TrodAll enc P W' 0 (fun b => decide (b < W.heap.size)) true ts args.toList ds p := by
  obtain ⟨⟨xs, e1, e0, e2, e3⟩, e4⟩ := open_args hl hp h hw (fun j t v hj hj' => hv j t v hj (by simpa using hj'))
  refine Calls.mono (hf xs (by omega) e3 (fun _ => False) W (fun _ => 0) (fun _ => 0) args (entry_ok glob_none) (by rw [e1]; simp) (fun i x hi => ?_)) fun e W' he => ?_
  · have := e2 i x hi
    rwa [show args.toList.getD i undef = args.getD i undef by simp [List.getD]] at this
  · obtain ⟨cv, r', h', n', μ', κ', rfl, ⟨rfl, rfl, rfl⟩, H', F', hrel⟩ := he
    have := relC_bool (relV_c hrel)
    subst this
    exact ⟨rfl, from_below F', e4 W' (from_below F')⟩
end
theorem map_of {α β : Type} {f : α → β} : ∀ {xs : List β}, (∀ x ∈ xs, ∃ p, x = f p) → ∃ ps : List α, xs = ps.map f
  | [], _ => ⟨[], rfl⟩
  | x :: xs, h => by
    obtain ⟨p, rfl⟩ := h x (List.mem_cons_self ..)
    obtain ⟨ps, rfl⟩ := map_of (xs := xs) fun y hy => h y (List.mem_cons_of_mem _ hy)
    exact ⟨p :: ps, rfl⟩
theorem map_ofP {α β : Type} {f : α → β} {ok : α → Prop} : ∀ {xs : List β}, (∀ x ∈ xs, ∃ p, x = f p ∧ ok p) → ∃ ps : List α, xs = ps.map f ∧ ∀ p, p ∈ ps → ok p
  | [], _ => ⟨[], rfl, by simp⟩
  | x :: xs, h => by
    obtain ⟨p, rfl, hp⟩ := h x (List.mem_cons_self ..)
    obtain ⟨ps, rfl, hq⟩ := map_ofP (xs := xs) fun y hy => h y (List.mem_cons_of_mem _ hy)
    refine ⟨p :: ps, rfl, fun r hr => ?_⟩
    rcases List.mem_cons.1 hr with rfl | hr
    · exact hp
    · exact hq r hr
attribute [irreducible] ShapeV
end Go.Proofs.YtolmbcngghkfiaaDoorBv
