/- The calculus: what an operation that only looks does, is what the model does. It proves nothing of any program. -/
import Derived.Test.YtolmbcngghkfiaaDoorBv2
import Derived.Laws.Sem
import Derived.Laws.Entries
namespace Go.Proofs.YtolmbcngghkfiaaDoorBv
open Go
set_option linter.unusedVariables false
set_option linter.unusedSimpArgs false

/-! ### lists -/
theorem mapM_get {α β : Type} {f : α → Option β} : ∀ {xs : List α} {ys : List β}, xs.mapM f = some ys → ys.length = xs.length ∧ ∀ (i : Nat) (x : α), xs[i]? = some x → ∃ y, ys[i]? = some y ∧ f x = some y := by
  intro xs
  induction xs with
  | nil => intro ys h; simp only [List.mapM_nil, pure, Option.some.injEq] at h; subst h; simp
  | cons x xs ih =>
    intro ys h
    simp only [List.mapM_cons, bind, pure, Option.bind_eq_some_iff, Option.some.injEq] at h
    obtain ⟨y, hy, zs, hz, rfl⟩ := h
    obtain ⟨h1, h2⟩ := ih hz
    refine ⟨by simp [h1], fun i z hi => ?_⟩
    cases i with
    | zero => simp only [List.getElem?_cons_zero, Option.some.injEq] at hi; subst hi; exact ⟨y, rfl, hy⟩
    | succ i => simpa using h2 i z (by simpa using hi)

theorem getD_of {vs : Array Value} {i : Nat} {v : Value} (h : vs[i]? = some v) : vs.getD i undef = v := by
  obtain ⟨hlt, rfl⟩ := Array.getElem?_eq_some_iff.1 h
  simp [Array.getD, hlt]

theorem get_of_getD {vs : Array Value} {i : Nat} (h : i < vs.size) : vs[i]? = some (vs.getD i undef) := by
  simp [Array.getD, h]

/-! ### inversions -/
section
variable {K : Ctx}
theorem relC_int {k : IntKind} {n : Int} {v : Value} (h : RelC K (.val (.int k n)) v) : v = .int k n := by cases h; rfl
theorem relC_bool {b : Bool} {v : Value} (h : RelC K (.val (.bool b)) v) : v = .bool b := by cases h; rfl
theorem relC_val {u v : Value} (h : RelC K (.val u) v) : v = u := by cases h; rfl
theorem relC_str {l : List UInt8} {v : Value} (h : RelC K (.str l) v) : v = .string ⟨l.toArray⟩ := by
  cases h with
  | str h => rename_i s; subst h; rfl
theorem relC_mkstr (l : List UInt8) : RelC K (.str l) (.string ⟨l.toArray⟩) := .str rfl
theorem relV_c {x : Cel} {v : Value} (h : RelV K (.c x) v) : RelC K x v := by cases h; assumption
theorem relV_agg {xs : List Cel} {v : Value} (h : RelV K (.agg xs) v) : ∃ vs, v = .agg vs ∧ xs.length = vs.size ∧ ∀ (i : Nat) (x : Cel), xs[i]? = some x → RelC K x (vs.getD i undef) := by
  cases h with
  | agg hl r => exact ⟨_, rfl, hl, r⟩
theorem relV_tup {xs : List AV} {v : Value} (h : RelV K (.tup xs) v) : ∃ vs, v = .tuple vs ∧ xs.length = vs.size ∧ ∀ (i : Nat) (x : AV), xs[i]? = some x → RelV K x (vs.getD i undef) := by
  cases h with
  | tup hl r => exact ⟨_, rfl, hl, r⟩
theorem relC_ref {b sz i j : Nat} {v : Value} (h : RelC K (.ref b sz i j) v) : b < K.n ∧ v = .pointer (some ⟨K.μ b, i * sz + j, none⟩) := by
  cases h with
  | ref h => exact ⟨h, rfl⟩
theorem relC_opq {v : Value} (h : RelC K .opq v) : ∃ T u, v = .iface T u := by
  cases h with
  | opq => exact ⟨_, _, rfl⟩
theorem relC_rop {cs : List Cel} {v : Value} (h : RelC K (.rop cs) v) : ∃ (ad : Addr) (f : Nat → Value), v = .pointer (some ad) ∧ (cs ≠ [] → K.S ad.block) ∧
    (∀ (j : Nat) (x : Cel), cs[j]? = some x → K.w.cell? (ad.add j) = some (f j)) ∧ (∀ (j : Nat) (x : Cel), cs[j]? = some x → RelC K.bare x (f j)) := by
  cases h with
  | rop f hs hcell hrel => exact ⟨_, f, rfl, hs, hcell, hrel⟩
theorem relC_fn {f : Fn} {first captured : List Cel} {v : Value} (h : RelC K (.fn f first captured) v) : ∃ vs us, v = .func f vs us ∧ first.length = vs.size ∧ captured.length = us.size ∧
    (∀ (i : Nat) (x : Cel), first[i]? = some x → RelC K x (vs.getD i undef)) ∧ (∀ (i : Nat) (x : Cel), captured[i]? = some x → RelC K x (us.getD i undef)) := by
  cases h with
  | fn h1 h2 r1 r2 => exact ⟨_, _, rfl, h1, h2, r1, r2⟩
theorem relC_own {b sz off len m : Nat} {v : Value} (h : RelC K (.own b sz off len m) v) :
    ∃ o cap, b < K.n ∧ v = .slice (some ⟨K.μ b, o, none⟩) len cap ∧ len ≤ m ∧ m ≤ cap ∧ (o = off * sz ∨ cap = 0) ∧ off + cap ≤ K.κ b := by
  cases h with
  | own h hl hm ho hk => exact ⟨_, _, h, rfl, hl, hm, ho, hk⟩
end

theorem free_bare {K : Ctx} {x : Cel} {v : Value} (h : RelC K x v) (hf : x.free = true) : RelC K.bare x v := by
  cases h with
  | val h => exact .val h
  | str h => exact .str h
  | ref h => cases hf
  | own h => cases hf
  | mp h => cases hf
  | opq => exact .opq
  | ro f hn hc hz hl hs hcell hrel => exact .ro f hn hc hz hl hs hcell hrel
  | rop f hs hcell hrel => exact .rop f hs hcell hrel
  | emp => exact .emp
  | @fn _ f a b vs us h1 h2 r1 r2 =>
    cases a with
    | cons => cases hf
    | nil => cases b with
      | cons => cases hf
      | nil => exact .fn h1 h2 (fun i x h => by simp at h) (fun i x h => by simp at h)

/-- What the slots hold. -/
def EnvOK (K : Ctx) (env : Nat → Option AV) (a : Act) : Prop := ∀ s v, env s = some v → RelV K v (a.eval (.tmp s))

theorem EnvOK.mono {K K' : Ctx} {env : Nat → Option AV} {a : Act} (h : EnvOK K env a) (L : Ctx.Le K K') : EnvOK K' env a := fun s v hv => (h s v hv).mono L

/-! ### arguments -/
theorem zeroCel_ok {K : Ctx} {v : Value} {sz : Nat} {c : Cel} (h : zeroCel v sz = some c) : RelC K c v := by
  unfold zeroCel at h
  split at h
  · rename_i hp
    simp only [Option.some.injEq] at h
    subst h
    exact .val hp
  · split at h
    · simp only [Option.some.injEq] at h; subst h; exact .str rfl
    · simp only [Option.some.injEq] at h
      subst h
      exact .ro (A := none) (xs := []) (c := 0) (fun _ _ => undef) (fun _ => rfl) (Nat.le_refl _) (fun _ => rfl) (fun i e h => by simp at h) (fun ad h => by cases h) (fun i e h => by simp at h) (fun i e h => by simp at h)
    · cases h

theorem celsOf_ok {K : Ctx} {P : Program} {t : TypeId} {cs : List Value} {l : List Cel} (h : celsOf P t cs = some l) :
    l.length = cs.length ∧ ∀ (i : Nat) (x : Cel), l[i]? = some x → RelC K x (cs.toArray.getD i undef) := by
  unfold celsOf at h
  obtain ⟨h1, h2⟩ := mapM_get h
  rw [List.length_zipIdx] at h1
  refine ⟨h1, fun i x hx => ?_⟩
  have hi : i < cs.length := by rw [← h1]; exact (List.getElem?_eq_some_iff.1 hx).1
  have hz : cs.zipIdx[i]? = some (cs[i], i) := by
    rw [List.getElem?_zipIdx, List.getElem?_eq_getElem hi]; simp
  obtain ⟨y, hy, hf⟩ := h2 i _ hz
  rw [hx] at hy
  cases hy
  have := zeroCel_ok (K := K) hf
  rwa [getD_of (v := cs[i]) (by simp [hi])]

theorem zeroCels_ok {K : Ctx} {P : Program} {t : TypeId} {l : List Cel} (h : zeroCels P t = some l) :
    ∃ i z, P.info? t = some i ∧ i.zero = some z ∧ l.length = z.cells.size ∧ ∀ (j : Nat) (x : Cel), l[j]? = some x → RelC K x (z.cells.getD j undef) := by
  unfold zeroCels at h
  simp only [bind, Option.bind_eq_some_iff] at h
  obtain ⟨i, hi, z, hz, h⟩ := h
  have := celsOf_ok (K := K) (P := P) (t := t) (cs := z.cells.toList) (l := l) h
  exact ⟨i, z, hi, hz, by simpa using this.1, by simpa using this.2⟩

section
variable {P : Program} {Γ : Glob} {E : Nat → Prop} {w : World} {μ κ : Nat → Nat} {h : Heap} {n : Nat} {env : Nat → Option AV} {a : Act}

theorem arg_ok (H : HeapOK Γ E w μ κ h n) (HE : EnvOK (ctx E w μ κ h n) env a) {t : TypeId} {x : Operand} {y : Arg} {v : AV} (hc : compArg P t x = some y) (hv : y.get Γ env = some v) :
    RelV (ctx E w μ κ h n) v (a.eval x) := by
  cases x with
  | tmp i => simp only [compArg, Option.some.injEq] at hc; subst hc; exact HE i v hv
  | global g =>
    simp only [compArg, Option.some.injEq] at hc
    subst hc
    simp only [Arg.get, Option.some.injEq] at hv
    subst hv
    exact .c (H.glob g).1
  | func f =>
    simp only [compArg, Option.some.injEq] at hc
    subst hc
    simp only [Arg.get, Option.some.injEq] at hv
    subst hv
    exact .c (.fn rfl rfl (fun i x h => by simp at h) (fun i x h => by simp at h))
  | const u =>
    unfold compArg at hc
    split at hc
    · rename_i heq; cases heq
    · rename_i heq; cases heq
    · rename_i heq; cases heq
    · rename_i cs heq
      cases heq
      simp only [Option.map_eq_some_iff] at hc
      obtain ⟨l, hl, rfl⟩ := hc
      simp only [Arg.get, Option.some.injEq] at hv
      subst hv
      have := celsOf_ok (K := ctx E w μ κ h n) hl
      exact .agg (by simpa using this.1) (by simpa using this.2)
    · rename_i u' _ heq
      cases heq
      simp only [Option.map_eq_some_iff] at hc
      obtain ⟨c, hcc, rfl⟩ := hc
      simp only [Arg.get, Option.some.injEq] at hv
      subst hv
      exact .c (zeroCel_ok hcc)

theorem cells_ok (H : HeapOK Γ E w μ κ h n) (HE : EnvOK (ctx E w μ κ h n) env a) {t : TypeId} {x : Operand} {y : Arg} {l : List Cel} (hc : compArg P t x = some y) (hv : cellsOfArg Γ env y = some l) :
    l.length = (a.eval x).cells.size ∧ (∀ (i : Nat) (z : Cel), l[i]? = some z → RelC (ctx E w μ κ h n) z ((a.eval x).cells.getD i undef)) := by
  unfold cellsOfArg at hv
  obtain ⟨v, h1, h2⟩ := Option.bind_eq_some_iff.1 hv
  have hr := arg_ok H HE hc h1
  have ht : ∀ l, v ≠ .tup l := by intro l' e; subst e; simp [AV.flat] at h2
  have he : v.cells = l := by
    cases v with
    | c x => simpa [AV.flat, AV.cells] using h2
    | agg x => simpa [AV.flat, AV.cells] using h2
    | tup x => exact absurd rfl (ht x)
  have := hr.cells ht
  rw [he] at this
  exact this

theorem getI_ok (H : HeapOK Γ E w μ κ h n) (HE : EnvOK (ctx E w μ κ h n) env a) {t : TypeId} {x : Operand} {y : Arg} {i : Int} (hc : compArg P t x = some y) (hv : getI Γ env y = some i) :
    ∃ k, a.eval x = .int k i := by
  unfold getI at hv
  obtain ⟨v, h1, h2⟩ := Option.bind_eq_some_iff.1 hv
  have hr := arg_ok H HE hc h1
  unfold AV.int? at h2
  split at h2
  · simp only [Option.some.injEq] at h2
    subst h2
    exact ⟨_, relC_int (relV_c hr)⟩
  · cases h2
end

/-! ### runs of the model -/
section
variable {P : Program} {w : World}
theorem run_typeInfo' {t : TypeId} {i : TypeInfo} (h : P.info? t = some i) : (typeInfo t).run P w = .ok i w := by
  simp [typeInfo, h]
theorem run_sizeOf' {t : TypeId} {s : Nat} (h : sizeT P t = some s) : (sizeOf t).run P w = .ok s w := by
  unfold sizeT at h
  obtain ⟨i, hi, rfl⟩ := Option.map_eq_some_iff.1 h
  simp [sizeOf, run_typeInfo' hi]
theorem run_isAgg' {t : TypeId} {b : Bool} (h : aggT P t = some b) : (isAgg t).run P w = .ok b w := by
  unfold aggT at h
  cases hu : P.underlying t with
  | none => rw [hu] at h; cases h
  | some d =>
    rw [hu] at h
    simp only [isAgg, Sem.run_bind, run_underlying hu, Result.andThen_ok]
    cases d <;> (simp only [Option.some.injEq] at h; subst h; rfl)

theorem run_loadCellsFrom {ad : Addr} : ∀ (m i : Nat) (acc : Array Value) (vs : List Value), vs.length = m → (∀ j, (hj : j < m) → w.cell? (ad.add (i + j)) = some (vs.getD j undef)) →
    (loadCellsFrom ad i m acc).run P w = .ok (acc ++ vs.toArray) w := by
  intro m
  induction m with
  | zero => intro i acc vs hl _; have : vs = [] := List.eq_nil_of_length_eq_zero hl; subst this; simp [loadCellsFrom]
  | succ m ih =>
    intro i acc vs hl hc
    obtain ⟨v, vs, rfl⟩ : ∃ v r, vs = v :: r := by cases vs with | nil => simp at hl | cons v r => exact ⟨v, r, rfl⟩
    have h0 := hc 0 (Nat.zero_lt_succ m)
    simp only [Nat.add_zero] at h0
    simp only [loadCellsFrom, Sem.run_bind, run_load, h0, Result.andThen_ok]
    rw [ih (i + 1) _ vs (by simpa using hl) (fun j hj => by
      have := hc (j + 1) (by omega)
      rw [show i + (j + 1) = i + 1 + j by omega] at this
      simpa using this)]
    simp
theorem run_loadCells {ad : Addr} {m : Nat} (vs : List Value) (hl : vs.length = m) (hc : ∀ j, j < m → w.cell? (ad.add j) = some (vs.getD j undef)) :
    (loadCells ad m).run P w = .ok vs.toArray w := by
  unfold loadCells
  rw [run_loadCellsFrom m 0 #[] vs hl (fun j hj => by rw [Nat.zero_add]; exact hc j hj)]
  simp
end

/-- what 'rdC' reads: of cells that lie in a row -/
theorem rd_run {P : Program} {K : Ctx} {t : TypeId} {agg : Bool} {m : Nat} {cs : List Cel} {v : AV} {ad : Addr} (f : Nat → Value) (hg : aggT P t = some agg) (hm : sizeT P t = some m)
    (hv : rdC agg m cs = some v) (hr : ∀ j x, cs[j]? = some x → RelC K x (f j)) :
    ∃ cv, RelV K v cv ∧ ∀ w' : World, (∀ j x, cs[j]? = some x → w'.cell? (ad.add j) = some (f j)) → (loadVar t ad).run P w' = .ok cv w' := by
  unfold rdC at hv
  cases agg with
  | true =>
    simp only [if_true] at hv
    split at hv
    · rename_i hle
      simp only [Option.some.injEq] at hv
      subst hv
      refine ⟨.agg ((List.range m).map f).toArray, .agg (by simp; omega) ?_, fun w' hc => ?_⟩
      · intro i x hx
        rw [List.getElem?_take] at hx
        split at hx
        · rename_i hi
          rw [getD_of (v := f i) (by simp [hi])]
          exact hr i x hx
        · cases hx
      · simp only [loadVar, Sem.run_bind, run_isAgg' hg, Result.andThen_ok, if_true, run_sizeOf' hm]
        rw [run_loadCells (w := w') ((List.range m).map f) (by simp) (fun j hj => ?_)]
        · simp
        · have hjl : j < cs.length := by omega
          rw [hc j cs[j] (List.getElem?_eq_getElem hjl)]
          simp [hj]
    · cases hv
  | false =>
    simp only [Bool.false_eq_true, if_false] at hv
    cases cs with
    | nil => cases hv
    | cons x r =>
      simp only [Option.some.injEq] at hv
      subst hv
      refine ⟨f 0, .c (hr 0 x rfl), fun w' hc => ?_⟩
      have := hc 0 x rfl
      rw [show ad.add 0 = ad by simp [Addr.add]] at this
      simp only [loadVar, Sem.run_bind, run_isAgg' hg, Result.andThen_ok, Bool.false_eq_true, if_false, run_load, this]

/-- what 'rdC' reads: a part of an aggregate -/
theorem rd_part {P : Program} {K : Ctx} {t : TypeId} {agg : Bool} {m off : Nat} {cs : List Cel} {vs : Array Value} {v : AV} (hg : aggT P t = some agg) (hm : sizeT P t = some m)
    (hl : cs.length = vs.size) (hv : rdC agg m (cs.drop off) = some v) (hr : ∀ j x, cs[j]? = some x → RelC K x (vs.getD j undef)) :
    ∃ cv, RelV K v cv ∧ ∀ w' : World, (part t vs off).run P w' = .ok cv w' := by
  unfold rdC at hv
  cases agg with
  | true =>
    simp only [if_true] at hv
    split at hv
    · rename_i hle
      simp only [List.length_drop] at hle
      simp only [Option.some.injEq] at hv
      subst hv
      refine ⟨.agg (vs.extract off (off + m)), .agg (by simp; omega) ?_, fun w' => ?_⟩
      · intro i x hx
        rw [List.getElem?_take] at hx
        split at hx
        · rename_i hi
          rw [List.getElem?_drop] at hx
          have h1 := hr _ _ hx
          have hlt : off + i < vs.size := by rw [← hl]; exact (List.getElem?_eq_some_iff.1 hx).1
          rw [getD_of (v := vs.getD (off + i) undef)]
          · exact h1
          · rw [Array.getElem?_extract, if_pos (by omega), get_of_getD hlt]
        · cases hx
      · simp only [part, Sem.run_bind, run_isAgg' hg, Result.andThen_ok, if_true, run_sizeOf' hm, Sem.run_pure]
    · cases hv
  | false =>
    simp only [Bool.false_eq_true, if_false] at hv
    split at hv
    · rename_i x r hd
      simp only [Option.some.injEq] at hv
      subst hv
      have hx : cs[off]? = some x := by
        have : (cs.drop off)[0]? = some x := by rw [hd]; rfl
        simpa using this
      have hlt : off < vs.size := by rw [← hl]; exact (List.getElem?_eq_some_iff.1 hx).1
      refine ⟨vs.getD off undef, .c (hr off x hx), fun w' => ?_⟩
      simp only [part, Sem.run_bind, run_isAgg' hg, Result.andThen_ok, Bool.false_eq_true, if_false, get_of_getD hlt, Sem.run_pure]
    · cases hv

end Go.Proofs.YtolmbcngghkfiaaDoorBv
