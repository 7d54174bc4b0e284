/- The calculus: package variables that read as a known datum. It proves nothing of any program. -/
import Derived.Test.YtolmbcngghkfiaaDoorBv20
import Derived.OpenShut
import Derived.FnData
namespace Go.Proofs.YtolmbcngghkfiaaDoorBv
open Go
set_option linter.unusedVariables false
set_option linter.unusedSimpArgs false

section
variable {H : Type}
def catD (F : TypeId → DataW H → Option (List Cel)) : List TypeId → List (DataW H) → Option (List Cel)
  | [], [] => some []
  | t :: ts, p :: ps => match F t p, catD F ts ps with
    | some a, some b => some (a ++ b)
    | _, _ => none
  | _, _ => none
def allD (F : DataW H → Option (List Cel)) : List (DataW H) → Option (List (List Cel))
  | [] => some []
  | x :: r => match F x, allD F r with
    | some a, some b => some (a :: b)
    | _, _ => none
/-- the cells of a datum -/
def celsD (P : Program) : Nat → TypeId → DataW H → Option (List Cel)
  | 0, _, _ => none
  | d + 1, t, x => match P.underlying t, x with
    | some .bool, .lit (.bool b) => some [.val (.bool b)]
    | some (.int k), .lit (.int _ n) => some [.val (.int k n)]
    | some .string, .lit (.string s) => some [.str s]
    | some (.slice e), .nil => some [.ro false (P.cellsOf e) []]
    | some (.slice e), .slice es _ => (allD (celsD P d e) es).map fun xs => [.ro false (P.cellsOf e) xs]
    | some (.struct fs), .agg ps => catD (celsD P d) (fs.toList.map (·.type)) ps
    | some (.array n e), .agg ps => catD (celsD P d) (List.replicate n e) ps
    | _, _ => none
theorem allD_get {F : DataW H → Option (List Cel)} : ∀ {l : List (DataW H)} {xs : List (List Cel)}, allD F l = some xs → xs.length = l.length ∧ ∀ (i : Nat) q, xs[i]? = some q → ∃ x, l[i]? = some x ∧ F x = some q
  | [], xs, h => by cases h; exact ⟨rfl, fun i q h => by simp at h⟩
  | x :: r, xs, h => by
    simp only [allD] at h
    split at h
    · rename_i a b h1 h2
      cases h
      obtain ⟨g1, g2⟩ := allD_get h2
      refine ⟨by simp [g1], fun i q hq => ?_⟩
      cases i with
      | zero => simp at hq; subst hq; exact ⟨x, rfl, h1⟩
      | succ i => simpa using g2 i q (by simpa using hq)
    · cases h

variable {enc : TypeId × Value → H} {P : Program} {base : Nat} {spare : Nat → Bool} {held : Bool} {K : Ctx}
def OpensD (enc : TypeId × Value → H) (P : Program) (base : Nat) (spare : Nat → Bool) (held : Bool) (K : Ctx) (d : Nat) (t : TypeId) : Prop :=
  ∀ (fuel : Nat) (cs : List Value) (x : DataW H) (p : List MemPlace) (l : List Cel), celsD P d t x = some l → DataW.trod enc P K.w base spare held fuel t cs = some (x, p) →
    l.length = cs.length ∧ ∀ (i : Nat) (y : Cel), l[i]? = some y → RelC K y (cs.getD i undef)

theorem cat_openD {d : Nat} {cs : List Value} {total : Nat} (hl : cs.length = total) : ∀ (r : List (Nat × TypeId)) (ps : List (DataW H)) (off : Nat) (l : List Cel), tiles P total off r = true → (∀ p ∈ r, OpensD enc P base spare held K d p.2) →
    (∀ (i : Nat) o t x, r[i]? = some (o, t) → ps[i]? = some x → ∃ fuel q, DataW.trod enc P K.w base spare held fuel t ((cs.drop o).take (P.cellsOf t)) = some (x, q)) →
    catD (celsD P d) (r.map (·.2)) ps = some l → off + l.length = total ∧ ∀ (i : Nat) (y : Cel), l[i]? = some y → RelC K y (cs.getD (off + i) undef)
  | [], [], off, l, ht, _, _, hc => by
    simp only [List.map_nil, catD, Option.some.injEq] at hc
    subst hc
    exact ⟨by simp [tiles] at ht; simpa using ht, fun i y h => by simp at h⟩
  | [], _ :: _, off, l, ht, _, _, hc => by simp [catD] at hc
  | _ :: _, [], off, l, ht, _, _, hc => by simp [catD] at hc
  | (o, t) :: r, x :: ps, off, l, ht, ho, hx, hc => by
    simp only [tiles, Bool.and_eq_true, beq_iff_eq] at ht
    obtain ⟨rfl, ht⟩ := ht
    simp only [List.map_cons, catD] at hc
    split at hc
    · rename_i a b h1 h2
      cases hc
      have hle := tiles_le r _ ht
      obtain ⟨hb1, hb2⟩ := cat_openD hl r ps _ b ht (fun p hp => ho p (List.mem_cons_of_mem _ hp)) (fun i o t x h h' => hx (i + 1) o t x (by simpa using h) (by simpa using h')) h2
      obtain ⟨fuel, q, hf⟩ := hx 0 o t x rfl rfl
      obtain ⟨ha1, ha2⟩ := ho (o, t) (List.mem_cons_self ..) fuel _ x q a h1 hf
      have hlen : a.length = P.cellsOf t := by rw [ha1]; simp; omega
      refine ⟨by rw [List.length_append]; omega, fun i y hy => ?_⟩
      by_cases hi : i < a.length
      · rw [List.getElem?_append_left hi] at hy
        have := ha2 i y hy
        have e : ((cs.drop o).take (P.cellsOf t)).getD i undef = cs.getD (o + i) undef := by
          simp only [List.getD, List.getElem?_take_of_lt (show i < P.cellsOf t by omega), List.getElem?_drop]
        rwa [e] at this
      · rw [List.getElem?_append_right (by omega)] at hy
        have := hb2 _ y hy
        rwa [show o + P.cellsOf t + (i - a.length) = o + i by omega] at this
    · cases hc

theorem opensD (hbare : K.bare = K) (hS : ∀ k, k < K.w.heap.size → K.S k) : ∀ (d : Nat) (t : TypeId), plainT P d t = true → OpensD enc P base spare held K d t := by
  intro d
  induction d with
  | zero => intro t h; simp [plainT] at h
  | succ d ih =>
    intro t h fuel cs x p l hl hx
    simp only [plainT] at h
    split at h
    · rename_i hu
      obtain ⟨b, rfl, e⟩ := DataW.trod_bool hu hx
      cases e
      simp only [celsD, hu, Option.some.injEq] at hl
      subst hl
      refine ⟨rfl, fun i y hy => ?_⟩
      cases i with
      | zero => simp at hy; subst hy; exact .val rfl
      | succ i => simp at hy
    · rename_i k hu
      obtain ⟨n, rfl, e, hw⟩ := DataW.trod_int hu hx
      cases e
      simp only [celsD, hu, Option.some.injEq] at hl
      subst hl
      refine ⟨rfl, fun i y hy => ?_⟩
      cases i with
      | zero => simp at hy; subst hy; exact .val rfl
      | succ i => simp at hy
    · rename_i hu
      obtain ⟨s, rfl, e, hw⟩ := DataW.trod_string hu hx
      cases e
      simp only [celsD, hu, Option.some.injEq] at hl
      subst hl
      refine ⟨rfl, fun i y hy => ?_⟩
      cases i with
      | zero => simp at hy; subst hy; exact .str rfl
      | succ i => simp at hy
    · rename_i e hu
      simp only [Bool.and_eq_true] at h
      rcases Deep.open_slice hu hx with ⟨rfl, e1⟩ | ⟨a, len, cap, m, n, D, Pl, rfl, hb, hlc, hcm, hm, e1, hel⟩
      · cases e1
        simp only [celsD, hu, Option.some.injEq] at hl
        subst hl
        refine ⟨rfl, fun i y hy => ?_⟩
        cases i with
        | zero =>
          simp at hy; subst hy
          exact .ro (A := none) (xs := []) (c := 0) (fun _ _ => undef) (fun q => by cases q) (Nat.le_refl _) (fun _ => rfl) (fun i e h => by simp at h) (fun ad h => by cases h) (fun i e h => by simp at h) (fun i e h => by simp at h)
        | succ i => simp at hy
      · cases e1
        simp only [celsD, hu, Option.map_eq_some_iff] at hl
        obtain ⟨xs, hxs, rfl⟩ := hl
        obtain ⟨hlx, hgx⟩ := allD_get hxs
        have hlenx : xs.length = len := by rw [hlx]; simp
        have hlm : len ≤ m := by rw [hm]; split <;> omega
        have each : ∀ i, i < len → ∃ c : List Value, (∃ q, xs[i]? = some q ∧ q.length = P.cellsOf e ∧ (∀ (j : Nat) (y : Cel), q[j]? = some y → RelC K y (c.getD j undef))) ∧ (∀ j, j < P.cellsOf e → K.w.cell? (a.add (i * P.cellsOf e + j)) = some (c.getD j undef)) := by
          intro i hi
          obtain ⟨cs', h1, h2⟩ := hel i (by omega)
          obtain ⟨_, hl', hc'⟩ := World.cells?_some h1
          have hi' : i < xs.length := by omega
          obtain ⟨x', hx', hq⟩ := hgx i xs[i] (List.getElem?_eq_getElem hi')
          have hD : x' = D i := by simpa [hi] using hx'.symm
          subst hD
          obtain ⟨g1, g2⟩ := ih e h.2.2 n cs' _ _ _ hq h2
          refine ⟨cs', ⟨xs[i], List.getElem?_eq_getElem hi', by rw [g1, hl'], g2⟩, fun j hj => ?_⟩
          have := hc' j hj
          rw [Deep.add_add] at this
          rw [this, List.getD, List.getElem?_eq_getElem (by omega)]
          rfl
        obtain ⟨F, hF⟩ := Deep.choose_lt (α := List Value) each
        have hget : ∀ (i : Nat) (q : List Cel), xs[i]? = some q → i < len ∧ q.length = P.cellsOf e ∧ ∀ (j : Nat) (y : Cel), q[j]? = some y → RelC K y ((F i).getD j undef) := by
          intro i q hq
          have hi : i < len := by rw [← hlenx]; exact (List.getElem?_eq_some_iff.1 hq).1
          obtain ⟨⟨q', h1, h2, h3⟩, _⟩ := hF i hi
          rw [hq] at h1
          cases h1
          exact ⟨hi, h2, h3⟩
        refine ⟨rfl, fun i y hy => ?_⟩
        cases i with
        | zero =>
          simp only [List.getElem?_cons_zero, Option.some.injEq] at hy
          subst hy
          have hr := RelC.ro (K := K) (nl := false) (sz := P.cellsOf e) (c := cap) (xs := xs) (A := some a) (fun i j => (F i).getD j undef) (fun q => by cases q) (by rw [hlenx]; exact hlc) (fun h => by cases h)
            (fun i q hq => (hget i q hq).2.1)
            (fun ad had hne hsz => by
              cases had
              have hl0 : 0 < len := by
                rcases Nat.eq_zero_or_pos len with h0 | h0
                · exact absurd (List.eq_nil_of_length_eq_zero (by omega)) hne
                · exact h0
              have hc := (hF 0 hl0).2 0 (by omega)
              refine hS _ ?_
              rcases Nat.lt_or_ge a.block K.w.heap.size with h | h
              · exact h
              · unfold World.cell? at hc
                rw [add_block] at hc
                rw [Array.getElem?_eq_none h] at hc
                cases hc)
            (fun i q hq j y hy => by
              obtain ⟨h1, h2, _⟩ := hget i q hq
              exact (hF i h1).2 j (by rw [← h2]; exact (List.getElem?_eq_some_iff.1 hy).1))
            (fun i q hq j y hy => by rw [hbare]; exact (hget i q hq).2.2 j y hy)
          rw [hlenx] at hr
          exact hr
        | succ i => simp at hy
    · rename_i fs hu
      simp only [Bool.and_eq_true] at h
      obtain ⟨xs, n, _, e1, hcl, hxl, hf⟩ := DataW.trod_struct hu hx
      cases e1
      simp only [celsD, hu] at hl
      have := cat_openD (K := K) (enc := enc) (base := base) (spare := spare) (held := held) (d := d) hcl (fs.toList.map fun f => (f.offset, f.type)) (xs.map (·.1)) 0 l h.1 (fun p hp => by
          obtain ⟨f, hfm, rfl⟩ := List.mem_map.1 hp
          exact ih f.type (List.all_eq_true.1 h.2 f hfm)) (fun i o t x hr hx' => by
          rw [List.getElem?_map] at hr hx'
          obtain ⟨f, hf', hfe⟩ := Option.map_eq_some_iff.1 hr
          cases hfe
          obtain ⟨z, hz, rfl⟩ := Option.map_eq_some_iff.1 hx'
          exact ⟨n, z.2, (hf i f (by rw [← Array.getElem?_toList]; exact hf')).trans hz⟩) (by rw [List.map_map]; exact hl)
      exact ⟨by omega, fun i y hy => by have := this.2 i y hy; rwa [Nat.zero_add] at this⟩
    · rename_i n e hu
      simp only [Bool.and_eq_true] at h
      obtain ⟨xs, m, _, e1, hcl, hxl, hf⟩ := DataW.trod_array hu hx
      cases e1
      simp only [celsD, hu] at hl
      have e1 : ((List.range n).map fun i => (i * P.cellsOf e, e)).map (·.2) = List.replicate n e := by
        rw [List.map_map]
        apply List.ext_getElem <;> simp
      have := cat_openD (K := K) (enc := enc) (base := base) (spare := spare) (held := held) (d := d) hcl ((List.range n).map fun i => (i * P.cellsOf e, e)) (xs.map (·.1)) 0 l h.1 (fun p hp => by
          obtain ⟨i, _, rfl⟩ := List.mem_map.1 hp
          exact ih e h.2) (fun i o t x hr hx' => by
          rw [List.getElem?_map] at hr hx'
          obtain ⟨k, hk, hfe⟩ := Option.map_eq_some_iff.1 hr
          cases hfe
          obtain ⟨hlt, rfl⟩ := List.getElem?_eq_some_iff.1 hk
          simp only [List.length_range] at hlt
          obtain ⟨z, hz, rfl⟩ := Option.map_eq_some_iff.1 hx'
          refine ⟨m, z.2, ?_⟩
          rw [List.getElem_range]
          exact (hf i hlt).trans hz) (by rw [e1]; exact hl)
      exact ⟨by omega, fun i y hy => by have := this.2 i y hy; rwa [Nat.zero_add] at this⟩
    · cases h
end

section
variable {P : Program} {W : World}
/-- a listed variable's cells -/
theorem laid_one {n : String} {dat : DataW Unit} {g : Nat} {t : TypeId} {l : List Cel} {cs : Array Value} {fuel : Nat} {p : List MemPlace} (hg : P.globalNamed n = some g) (hv : W.var? P n = some cs)
    (hp : plainT P 12 t = true) (hl : celsD P 12 t dat = some l) (h : DataW.trod (fun _ => ()) P W 0 (fun _ => true) false fuel t cs.toList = some (dat, p)) : GlobOK (entry W) g l := by
  obtain ⟨h1, h2⟩ := opensD (K := entry W) rfl entry_S 12 t hp fuel cs.toList dat p l hl h
  refine ⟨.rop (fun j => cs.toList.getD j undef) (fun hne => entry_S _ ?_) (fun j x hx => ?_) (fun j x hx => h2 j x hx), fun _ => ?_⟩
  · simp only [World.var?, hg, Option.bind_some] at hv
    split at hv
    · rename_i c1 c2 c3 hh
      exact (Array.getElem?_eq_some_iff.1 hh).1
    · cases hv
  · have hj : j < cs.toList.length := by rw [← h1]; exact (List.getElem?_eq_some_iff.1 hx).1
    have := World.var?_cell hg hv j
    have e : (⟨g, 0, none⟩ : Addr).add j = ⟨g, j, none⟩ := by simp [Addr.add]; omega
    rw [e]
    refine this.trans ?_
    rw [← Array.getElem?_toList, List.getElem?_eq_getElem hj, List.getD, List.getElem?_eq_getElem hj]
    rfl
  · simp only [World.var?, hg, Option.bind_some] at hv
    split at hv
    · rename_i c1 c2 c3 hh
      cases hv
      exact ⟨_, _, _, hh, by rw [h1]; simp⟩
    · cases hv
theorem laid_all {n : String} {dat : DataW Unit} {g : Nat} {t : TypeId} {l : List Cel} (hg : P.globalNamed n = some g) (ht : (P.globals[g]?).map (·.type) = some t) (hp : plainT P 12 t = true) (hl : celsD P 12 t dat = some l) :
    ∀ {laid : List (String × DataW Unit)} {ps : List MemPlace}, DataW.LaidVars P W laid ps → (n, dat) ∈ laid → GlobOK (entry W) g l
  | [], _, _, h => by cases h
  | (n', d') :: r, ps, h, hm => by
    obtain ⟨g', t', cs, fuel, p, q, h1, h2, h3, h4, h5, _⟩ := h
    rcases List.mem_cons.1 hm with h | h
    · cases h
      rw [hg] at h1
      cases h1
      rw [ht] at h2
      cases h2
      exact laid_one hg h3 hp hl h4
    · exact laid_all hg ht hp hl h5 h
theorem laid_met {n : String} {dat : DataW Unit} {g : Nat} {t : TypeId} {l : List Cel} {laid : List (String × DataW Unit)} (h : laidMet P laid W) (hm : (n, dat) ∈ laid) (hg : P.globalNamed n = some g) (ht : (P.globals[g]?).map (·.type) = some t) (hp : plainT P 12 t = true) (hl : celsD P 12 t dat = some l) :
    GlobOK (entry W) g l := by
  obtain ⟨ps, h1, _⟩ := h
  exact laid_all hg ht hp hl h1 hm

variable {H : Type} {enc : TypeId × Value → H}
/-- **A law that is pure, over listed variables**: from its contract for whatever its arguments read as. -/
theorem law_callsG {Γ : Glob} {b0 : Nat} (hG : ∀ g, GlobOK (entry W) g (Γ g)) (hl : laidOutB P = true) {f : FuncId} {ts : List TypeId} {args : Array Value} {ds : List (DataW H)} {p : List MemPlace} {r : Bool} (hp : plainTs P ts = true) (h : DataW.TrodAll enc P W 0 (fun _ => true) true ts args.toList ds p) (hw : ∀ n ∈ DataW.weightsEach P ts ds, n ≤ reachBytes)
    (hv : ∀ (j : Nat) t v, ts[j]? = some t → args[j]? = some v → Value.okWide P W .any b0 t v)
    (hf : ∀ xs : List AV, xs.length = ts.length → (∀ (i : Nat) t (x : AV), ts[i]? = some t → xs[i]? = some x → ShapeV P t x) → CPure P Γ f xs (.c (.val (.bool r)))) :
    Calls P f args W fun e W' => e = .returned (.bool r) ∧ RowKit.Below W.heap.size W W' ∧ DataW.TrodAll enc P W' 0 (fun b => decide (b < W.heap.size)) true ts args.toList ds p := by
  obtain ⟨⟨xs, e1, e0, e2, e3⟩, e4⟩ := open_args hl hp h hw (fun j t v hj hj' => hv j t v hj (by simpa using hj'))
  refine Calls.mono (hf xs (by omega) e3 (fun _ => False) W (fun _ => 0) (fun _ => 0) args (entry_ok hG) (by rw [e1]; simp) (fun i x hi => ?_)) fun e W' he => ?_
  · have := e2 i x hi
    rwa [show args.toList.getD i undef = args.getD i undef by simp [List.getD]] at this
  · obtain ⟨cv, r', h', n', μ', κ', rfl, ⟨rfl, rfl, rfl⟩, H', F', hrel⟩ := he
    have := relC_bool (relV_c hrel)
    subst this
    exact ⟨rfl, from_below F', e4 W' (from_below F')⟩
end
end Go.Proofs.YtolmbcngghkfiaaDoorBv
