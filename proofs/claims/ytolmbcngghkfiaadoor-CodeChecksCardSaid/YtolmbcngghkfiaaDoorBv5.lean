/- The calculus: comparisons and arithmetic are the model's. It proves nothing of any program. -/
import Derived.Test.YtolmbcngghkfiaaDoorBv4
import Derived.Laws.StructEq
namespace Go.Proofs.YtolmbcngghkfiaaDoorBv
open Go
set_option linter.unusedVariables false
set_option linter.unusedSimpArgs false

theorem strEq (x y : List UInt8) : ((⟨x.toArray⟩ : ByteArray).toList == (⟨y.toArray⟩ : ByteArray).toList) = decide (x = y) := by
  rw [ByteArray.toList_eq, ByteArray.toList_eq]
  show (x.toArray.toList == y.toArray.toList) = _
  rw [List.toList_toArray, List.toList_toArray]
  rw [Bool.eq_iff_iff]; simp

theorem strLess (x y : List UInt8) : Op.bytesLess (⟨x.toArray⟩ : ByteArray).toList (⟨y.toArray⟩ : ByteArray).toList = Op.bytesLess x y := by
  rw [ByteArray.toList_eq, ByteArray.toList_eq]

theorem strSize (x : List UInt8) : (⟨x.toArray⟩ : ByteArray).size = x.length := rfl

theorem binI_ok {P : Program} {op : BinOp} {k k' : IntKind} {x y : Int} {v : Value} {t : TypeId} (hk : k = k' ∨ op = .shl ∨ op = .shr) (h : binI op k x y = some v) (w : World) :
    (binOp op t (.int k x) (.int k' y)).run P w = .ok v w ∧ plain v = true := by
  by_cases hs : op = .shl ∨ op = .shr
  · rcases hs with rfl | rfl
    all_goals
      simp only [binI] at h
      split at h
      · cases h
      · rename_i hy
        simp only [Option.some.injEq] at h
        subst h
        refine ⟨?_, rfl⟩
        simp only [binOp]
        unfold Op.shift
        rw [if_neg hy]
        rfl
  · have hk' : k = k' := by
      rcases hk with h | h | h
      · exact h
      · exact absurd (.inl h) hs
      · exact absurd (.inr h) hs
    subst hk'
    cases op <;> simp only [binI] at h
    case shl => exact absurd (.inl rfl) hs
    case shr => exact absurd (.inr rfl) hs
    case quo | rem =>
      split at h
      · cases h
      · rename_i hy
        simp only [Option.some.injEq] at h
        subst h
        refine ⟨?_, rfl⟩
        simp only [binOp, ne_eq, not_true, if_false, Op.intDiv, hy]
        rfl
    all_goals
      simp only [Option.some.injEq] at h
      subst h
      refine ⟨?_, rfl⟩
      simp only [binOp, ne_eq, not_true, if_false]
      rfl

theorem binS_ok {P : Program} {op : BinOp} {x y : List UInt8} {c : Cel} {t : TypeId} {K : Ctx} (h : binS op x y = some c) (w : World) :
    ∃ v, (binOp op t (.string ⟨x.toArray⟩) (.string ⟨y.toArray⟩)).run P w = .ok v w ∧ RelC K c v ∧ ∀ w', (binOp op t (.string ⟨x.toArray⟩) (.string ⟨y.toArray⟩)).run P w' = .ok v w' := by
  have hb : ∀ (op : BinOp), op ≠ .shl → op ≠ .shr → binOp op t (.string ⟨x.toArray⟩) (.string ⟨y.toArray⟩) = Op.stringOp op ⟨x.toArray⟩ ⟨y.toArray⟩ := by
    intro op h1 h2
    cases op <;> first | rfl | exact absurd rfl h1 | exact absurd rfl h2
  have main : ∃ v, RelC K c v ∧ ∀ w', (binOp op t (.string ⟨x.toArray⟩) (.string ⟨y.toArray⟩)).run P w' = .ok v w' := by
    cases op <;> simp only [binS] at h <;> (try (cases h; done))
    case add =>
      split at h
      · rename_i hle
        simp only [Option.some.injEq] at h
        subst h
        refine ⟨_, relC_mkstr _, fun w' => ?_⟩
        rw [hb _ (by simp) (by simp)]
        unfold Op.stringOp
        simp only [strSize, IntKind.max_i64]
        rw [if_neg (by omega)]
        simp only [Sem.run_pure]
        congr 2
      · cases h
    all_goals
      simp only [Option.some.injEq] at h
      subst h
      refine ⟨_, .val rfl, fun w' => ?_⟩
      rw [hb _ (by simp) (by simp)]
      simp only [Op.stringOp, strEq, strLess]
      rfl
  obtain ⟨v, h1, h2⟩ := main
  exact ⟨v, h2 w, h1, h2⟩

/-! ### cell by cell -/
def EK.fits (P : Program) (t : TypeId) : EK → Prop
  | .b => P.underlying t = some .bool
  | .i => ∃ q, P.underlying t = some (.int q)
  | .s => P.underlying t = some .string

theorem eqC_ok {P : Program} {K : Ctx} {d : Nat} {t : TypeId} {k : EK} {x y : Cel} {u v : Value} {b : Bool} (hb : eqC k x y = some b) (hx : RelC K x u) (hy : RelC K y v)
    (ht : k.fits P t) (w : World) :
    (Op.equalIn (d + 1) t u v).run P w = .ok b w := by
  unfold eqC at hb
  split at hb
  · split at hb
    · rename_i hk
      subst hk
      simp only [Option.some.injEq] at hb
      subst hb
      have h1 := relC_int hx; have h2 := relC_int hy
      subst h1; subst h2
      obtain ⟨q, hq⟩ := ht
      rw [run_equalIn_int w d t _ q _ _ hq]
      rfl
    · cases hb
  · simp only [Option.some.injEq] at hb
    subst hb
    have h1 := relC_bool hx; have h2 := relC_bool hy
    subst h1; subst h2
    rw [run_equalIn_bool' w d t _ _ ht]
  · simp only [Option.some.injEq] at hb
    subst hb
    have h1 := relC_str hx; have h2 := relC_str hy
    subst h1; subst h2
    rw [run_equalIn_string w d t _ _ ht, strEq]
  · cases hb

theorem eqCs_append : ∀ {k1 k2 : List EK} {xs ys : List Cel} {b : Bool}, eqCs (k1 ++ k2) xs ys = some b →
    ∃ b1 b2, eqCs k1 (xs.take k1.length) (ys.take k1.length) = some b1 ∧ eqCs k2 (xs.drop k1.length) (ys.drop k1.length) = some b2 ∧ b = (b1 && b2) := by
  intro k1
  induction k1 with
  | nil => intro k2 xs ys b h; exact ⟨true, b, rfl, h, rfl⟩
  | cons k k1 ih =>
    intro k2 xs ys b h
    cases xs with
    | nil => cases h
    | cons x xs =>
      cases ys with
      | nil => cases h
      | cons y ys =>
        simp only [List.cons_append, eqCs, Option.bind_eq_some_iff, Option.map_eq_some_iff] at h
        obtain ⟨a, ha, c, hc, rfl⟩ := h
        obtain ⟨b1, b2, h1, h2, rfl⟩ := ih hc
        refine ⟨a && b1, b2, ?_, by simpa using h2, by rw [Bool.and_assoc]⟩
        simp only [List.length_cons, List.take_succ_cons, eqCs, ha, h1, Option.bind_some, Option.map_some]

theorem eqCs_length : ∀ {ks : List EK} {xs ys : List Cel} {b : Bool}, eqCs ks xs ys = some b → xs.length = ks.length ∧ ys.length = ks.length := by
  intro ks
  induction ks with
  | nil =>
    intro xs ys b h
    cases xs <;> cases ys <;> first | exact ⟨rfl, rfl⟩ | cases h
  | cons k ks ih =>
    intro xs ys b h
    cases xs with
    | nil => cases h
    | cons x xs =>
      cases ys with
      | nil => cases h
      | cons y ys =>
        simp only [eqCs, Option.bind_eq_some_iff, Option.map_eq_some_iff] at h
        obtain ⟨a, ha, c, hc, rfl⟩ := h
        have := ih hc
        simp [this.1, this.2]

/-- the part of a row of cells at a place, as a value of a type -/
def viewOf (agg : Bool) (vs : Array Value) (off m : Nat) : Value := if agg then .agg (vs.extract off (off + m)) else vs.getD off undef

def Rel2 (K : Ctx) (xs : List Cel) (vs : Array Value) : Prop := xs.length ≤ vs.size ∧ ∀ (j : Nat) (x : Cel), xs[j]? = some x → RelC K x (vs.getD j undef)

theorem run_part_view {P : Program} {t : TypeId} {agg : Bool} {m off : Nat} {vs : Array Value} (hg : aggT P t = some agg) (hm : sizeT P t = some m) (hlt : agg = false → off < vs.size) (w : World) :
    (part t vs off).run P w = .ok (viewOf agg vs off m) w := by
  cases agg with
  | true => simp only [part, viewOf, Sem.run_bind, run_isAgg' hg, Result.andThen_ok, if_true, run_sizeOf' hm, Sem.run_pure]
  | false =>
    simp only [part, viewOf, Sem.run_bind, run_isAgg' hg, Result.andThen_ok, Bool.false_eq_true, if_false, get_of_getD (hlt rfl), Sem.run_pure]

/-- a row of cells from a place on -/
def From2 (K : Ctx) (xs : List Cel) (vs : Array Value) (off : Nat) : Prop := off + xs.length ≤ vs.size ∧ ∀ (j : Nat) (x : Cel), xs[j]? = some x → RelC K x (vs.getD (off + j) undef)

theorem From2.take {K : Ctx} {xs : List Cel} {vs : Array Value} {off m : Nat} (h : From2 K xs vs off) : From2 K (xs.take m) vs off :=
  ⟨by have := h.1; simp only [List.length_take]; omega, fun j x hj => by
    rw [List.getElem?_take] at hj
    split at hj
    · exact h.2 j x hj
    · cases hj⟩
theorem From2.drop {K : Ctx} {xs : List Cel} {vs : Array Value} {off m : Nat} (h : From2 K xs vs off) (hm : m ≤ xs.length) : From2 K (xs.drop m) vs (off + m) :=
  ⟨by have := h.1; simp only [List.length_drop]; omega, fun j x hj => by rw [List.getElem?_drop] at hj; rw [Nat.add_assoc]; exact h.2 _ x hj⟩
theorem From2.extract {K : Ctx} {xs : List Cel} {vs : Array Value} {off : Nat} (h : From2 K xs vs off) : From2 K xs (vs.extract off (off + xs.length)) 0 :=
  ⟨by have := h.1; simp only [Array.size_extract]; omega, fun j x hj => by
    have hlt : j < xs.length := (List.getElem?_eq_some_iff.1 hj).1
    have h1 := h.1
    rw [Nat.zero_add, getD_of (v := vs.getD (off + j) undef)]
    · exact h.2 j x hj
    · rw [Array.getElem?_extract, if_pos (by omega), get_of_getD (by omega)]⟩

def EqGood (P : Program) (d : Nat) (t : TypeId) (l : List EK) : Prop :=
  sizeT P t = some l.length ∧ l.length ≠ 0 ∧ ∃ agg, aggT P t = some agg ∧ ∀ (K : Ctx) (xs ys : List Cel) (vs us : Array Value) (b : Bool) (off D : Nat) (w : World), eqCs l xs ys = some b →
    From2 K xs vs off → From2 K ys us off → (Op.equalIn (d + D) t (viewOf agg vs off l.length) (viewOf agg us off l.length)).run P w = .ok b w

theorem eqFields_ok {P : Program} {d D : Nat} {K : Ctx} {vs us : Array Value} {w : World} (ih : ∀ t l, eqKinds P d t = some l → EqGood P d t l) :
    ∀ (fs : List Field) (l0 l : List EK), fs.foldl (fun acc f => acc.bind fun l => if f.name ≠ "_" ∧ f.offset = l.length then (eqKinds P d f.type).map (l ++ ·) else none) (some l0) = some l →
      ∃ lr, l = l0 ++ lr ∧ ∀ (xs ys : List Cel) (b : Bool), eqCs lr xs ys = some b → From2 K xs vs l0.length → From2 K ys us l0.length → (Op.eqFields (d + D) vs us fs).run P w = .ok b w := by
  intro fs
  induction fs with
  | nil =>
    intro l0 l h
    simp only [List.foldl_nil, Option.some.injEq] at h
    subst h
    refine ⟨[], by simp, fun xs ys b hb _ _ => ?_⟩
    cases xs with
    | nil =>
      cases ys with
      | nil => simp only [eqCs, Option.some.injEq] at hb; subst hb; rfl
      | cons => cases hb
    | cons => cases hb
  | cons f fs ihf =>
    intro l0 l h
    simp only [List.foldl_cons, Option.bind_some] at h
    have hnone : ∀ (gs : List Field), gs.foldl (fun acc f => acc.bind fun l => if f.name ≠ "_" ∧ f.offset = l.length then (eqKinds P d f.type).map (l ++ ·) else none) none = none := by
      intro gs
      induction gs with
      | nil => rfl
      | cons g gs ih => simpa using ih
    split at h
    · rename_i hf
      cases hk : eqKinds P d f.type with
      | none => rw [hk, Option.map_none, hnone] at h; cases h
      | some lf =>
        rw [hk, Option.map_some] at h
        obtain ⟨lr, rfl, hrest⟩ := ihf _ _ h
        obtain ⟨hsz, hne, agg, hagg, hgood⟩ := ih _ _ hk
        refine ⟨lf ++ lr, by rw [List.append_assoc], fun xs ys b hb hx hy => ?_⟩
        obtain ⟨b1, b2, h1, h2, rfl⟩ := eqCs_append hb
        have hl1 := eqCs_length hb
        simp only [List.length_append] at hl1
        have e1 := hgood K _ _ vs us b1 f.offset D w h1 (by rw [hf.2]; exact hx.take) (by rw [hf.2]; exact hy.take)
        have e2 := hrest _ _ b2 h2 (by rw [List.length_append]; exact hx.drop (by omega)) (by rw [List.length_append]; exact hy.drop (by omega))
        have p1 := run_part_view (off := f.offset) (vs := vs) hagg hsz (fun _ => by have := hx.1; rw [hf.2]; omega) w
        have p2 := run_part_view (off := f.offset) (vs := us) hagg hsz (fun _ => by have := hy.1; rw [hf.2]; omega) w
        simp only [Op.eqFields, hf.1, ne_eq, not_false_eq_true, if_true, Sem.run_bind, p1, p2, e1, Result.andThen_ok]
        cases b1
        · simp
        · simpa using e2
    · rw [hnone] at h; cases h

theorem run_eqArr {P : Program} {d m : Nat} {e : TypeId} {xs ys : Array Value} (w : World) (bs : Nat → Bool) :
    ∀ (l : List Nat), (∀ i ∈ l, ∃ u v, (part e xs (i * m)).run P w = .ok u w ∧ (part e ys (i * m)).run P w = .ok v w ∧ (Op.equalIn d e u v).run P w = .ok (bs i) w) →
    ((forIn l (none, ()) fun i _ => do
        let a ← part e xs (i * m)
        let b ← part e ys (i * m)
        let r ← Op.equalIn d e a b
        if (!r) = true then pure (ForInStep.done (some false, ())) else pure (ForInStep.yield (none, ())) : Sem (Option Bool × Unit))).run P w
      = .ok (if l.all bs then (none, ()) else (some false, ())) w := by
  intro l
  induction l with
  | nil => intro _; simp
  | cons i l ih =>
    intro hl
    obtain ⟨u, v, h1, h2, h3⟩ := hl i (List.mem_cons_self ..)
    have hr := ih (fun j hj => hl j (List.mem_cons_of_mem _ hj))
    simp only [List.forIn_cons, Sem.run_bind, h1, h2, h3, Result.andThen_ok]
    cases hb : bs i with
    | false => simp [hb]
    | true =>
      simp only [Bool.not_true, Bool.false_eq_true, if_false, Sem.run_pure, Result.andThen_ok]
      rw [hr]
      simp [hb]

theorem run_equalIn_array {P : Program} {d n m : Nat} {t e : TypeId} {xs ys : Array Value} (ht : P.underlying t = some (.array n e)) (hm : sizeT P e = some m) (w : World) (bs : Nat → Bool)
    (hl : ∀ i, i < n → ∃ u v, (part e xs (i * m)).run P w = .ok u w ∧ (part e ys (i * m)).run P w = .ok v w ∧ (Op.equalIn d e u v).run P w = .ok (bs i) w) :
    (Op.equalIn (d + 1) t (.agg xs) (.agg ys)).run P w = .ok ((List.range n).all bs) w := by
  simp only [Op.equalIn, Sem.run_bind, run_underlying ht, Result.andThen_ok, run_sizeOf' hm]
  rw [Std.Legacy.Range.forIn_eq_forIn_range']
  have := run_eqArr (P := P) (d := d) (m := m) (e := e) (xs := xs) (ys := ys) w bs (List.range' 0 n) (fun i hi => hl i (by simpa using hi))
  simp only [Std.Legacy.Range.size, Nat.sub_zero, Nat.add_sub_cancel, Nat.div_one] at *
  rw [this]
  rw [List.range_eq_range']
  cases (List.range' 0 n).all bs <;> simp

theorem eqCs_rep {k : List EK} : ∀ {n : Nat} {xs ys : List Cel} {b : Bool}, eqCs (List.replicate n k).flatten xs ys = some b →
    ∃ bs : Nat → Bool, b = (List.range n).all bs ∧ ∀ i, i < n → eqCs k ((xs.drop (i * k.length)).take k.length) ((ys.drop (i * k.length)).take k.length) = some (bs i) := by
  intro n
  induction n with
  | zero =>
    intro xs ys b h
    refine ⟨fun _ => true, ?_, fun i hi => by omega⟩
    cases xs <;> cases ys <;> simp_all [eqCs]
  | succ n ih =>
    intro xs ys b h
    rw [List.replicate_succ, List.flatten_cons] at h
    obtain ⟨b1, b2, h1, h2, rfl⟩ := eqCs_append h
    obtain ⟨bs, rfl, hbs⟩ := ih h2
    refine ⟨fun i => match i with | 0 => b1 | i + 1 => bs i, ?_, ?_⟩
    · rw [List.range_succ_eq_map, List.all_cons, List.all_map]
      rfl
    · intro i hi
      cases i with
      | zero => simpa using h1
      | succ i =>
        have := hbs i (by omega)
        rw [List.drop_drop, List.drop_drop, show k.length + i * k.length = (i + 1) * k.length by rw [Nat.succ_mul, Nat.add_comm]] at this
        exact this

theorem eqKinds_good {P : Program} : ∀ (d : Nat) (t : TypeId) (l : List EK), eqKinds P d t = some l → EqGood P d t l := by
  intro d
  induction d with
  | zero => intro t l h; cases h
  | succ d ih =>
    intro t l h
    have scalar : ∀ (k : EK), k.fits P t → sizeT P t = some 1 → l = [k] → aggT P t = some false → EqGood P (d + 1) t l := by
      intro k hf hs hl hag
      subst hl
      refine ⟨hs, by simp, false, hag, fun K xs ys vs us b off D w hb hx hy => ?_⟩
      cases xs with
      | nil => cases hb
      | cons x xs =>
        cases ys with
        | nil => cases hb
        | cons y ys =>
          have hlen := eqCs_length hb
          simp only [List.length_cons, List.length_nil] at hlen
          simp only [eqCs, Option.bind_eq_some_iff, Option.map_eq_some_iff] at hb
          obtain ⟨p, hp, q, hq, rfl⟩ := hb
          have hxs : xs = [] := List.eq_nil_of_length_eq_zero (by omega)
          have hys : ys = [] := List.eq_nil_of_length_eq_zero (by omega)
          subst hxs; subst hys
          simp only [eqCs, Option.some.injEq] at hq
          subst hq
          have hx0 := hx.2 0 x rfl
          have hy0 := hy.2 0 y rfl
          simp only [Nat.add_zero] at hx0 hy0
          rw [show d + 1 + D = (d + D) + 1 by omega, Bool.and_true]
          simp only [viewOf, Bool.false_eq_true, if_false]
          exact eqC_ok hp hx0 hy0 hf w
    simp only [eqKinds] at h
    split at h
    · rename_i hu
      split at h
      · rename_i hs
        simp only [Option.some.injEq] at h
        exact scalar .b hu hs h.symm (by simp [aggT, hu])
      · cases h
    · rename_i q hu
      split at h
      · rename_i hs
        simp only [Option.some.injEq] at h
        exact scalar .i ⟨q, hu⟩ hs h.symm (by simp [aggT, hu])
      · cases h
    · rename_i hu
      split at h
      · rename_i hs
        simp only [Option.some.injEq] at h
        exact scalar .s hu hs h.symm (by simp [aggT, hu])
      · cases h
    · rename_i fs hu
      split at h
      · cases h
      rename_i hst
      split at h
      · rename_i l' hl'
        split at h
        · rename_i hs
          simp only [Option.some.injEq] at h
          subst h
          refine ⟨hs.1, hs.2, true, by simp [aggT, hu], fun K xs ys vs us b off D w hb hx hy => ?_⟩
          have hlen := eqCs_length hb
          have hx' := hx.extract
          have hy' := hy.extract
          rw [hlen.1] at hx'
          rw [hlen.2] at hy'
          obtain ⟨lr, he, hgo⟩ := eqFields_ok (P := P) (d := d) (D := D) (K := K) (vs := vs.extract off (off + l'.length)) (us := us.extract off (off + l'.length)) (w := w) ih fs.toList [] l' hl'
          simp only [List.nil_append] at he
          subst he
          simp only [viewOf, if_true]
          have hfo : P.fieldsOf t = fs := by simp [Program.fieldsOf, hu]
          rw [show d + 1 + D = (d + D) + 1 by omega, run_equalIn_struct w (d + D) t _ _ (by rw [hfo]; exact hu) (by simpa using hst), hfo]
          exact hgo xs ys b hb hx' hy'
        · cases h
      · cases h
    · rename_i n e hu
      split at h
      · rename_i l' hl'
        split at h
        · rename_i hs
          simp only [Option.some.injEq] at h
          subst h
          obtain ⟨hsz, hne, agg, hagg, hgood⟩ := ih _ _ hl'
          have hlf : (List.replicate n l').flatten.length = n * l'.length := by simp
          refine ⟨by rw [hlf]; exact hs.1, by rw [hlf]; exact Nat.mul_ne_zero hs.2 hne, true, by simp [aggT, hu], fun K xs ys vs us b off D w hb hx hy => ?_⟩
          have hlen := eqCs_length hb
          have hx' := hx.extract
          have hy' := hy.extract
          rw [hlen.1] at hx'
          rw [hlen.2] at hy'
          obtain ⟨bs, rfl, hbs⟩ := eqCs_rep hb
          simp only [viewOf, if_true]
          rw [show d + 1 + D = (d + D) + 1 by omega]
          refine run_equalIn_array hu hsz w bs fun i hi => ?_
          have hle : i * l'.length + l'.length ≤ n * l'.length := by
            rw [← Nat.succ_mul]; exact Nat.mul_le_mul_right _ hi
          have hx2 : From2 K ((xs.drop (i * l'.length)).take l'.length) (vs.extract off (off + (List.replicate n l').flatten.length)) (i * l'.length) := by
            have := (hx'.drop (m := i * l'.length) (by rw [hlen.1, hlf]; omega)).take (m := l'.length)
            rwa [Nat.zero_add] at this
          have hy2 : From2 K ((ys.drop (i * l'.length)).take l'.length) (us.extract off (off + (List.replicate n l').flatten.length)) (i * l'.length) := by
            have := (hy'.drop (m := i * l'.length) (by rw [hlen.2, hlf]; omega)).take (m := l'.length)
            rwa [Nat.zero_add] at this
          have hlx : ((xs.drop (i * l'.length)).take l'.length).length = l'.length := by simp [hlen.1]; omega
          have hly : ((ys.drop (i * l'.length)).take l'.length).length = l'.length := by simp [hlen.2]; omega
          refine ⟨_, _, run_part_view hagg hsz (fun _ => by have := hx2.1; rw [hlx] at this; omega) w, run_part_view hagg hsz (fun _ => by have := hy2.1; rw [hly] at this; omega) w, ?_⟩
          exact hgood K _ _ _ _ (bs i) (i * l'.length) D w (hbs i hi) hx2 hy2
        · cases h
      · cases h
    · cases h

end Go.Proofs.YtolmbcngghkfiaaDoorBv
