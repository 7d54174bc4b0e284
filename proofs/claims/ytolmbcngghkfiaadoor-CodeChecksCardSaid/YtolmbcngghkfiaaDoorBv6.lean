/- The calculus: the other operations that only look. It proves nothing of any program. -/
import Derived.Test.YtolmbcngghkfiaaDoorBv5
namespace Go.Proofs.YtolmbcngghkfiaaDoorBv
open Go
set_option linter.unusedVariables false
set_option linter.unusedSimpArgs false

theorem eqAgg_ok {P : Program} {K : Ctx} {t : TypeId} {l : List EK} (h : eqKinds P 12 t = some l) (hag : aggT P t = some true) {xs ys : List Cel} {b : Bool} (hb : eqCs l xs ys = some b) {vs us : Array Value}
    (hx : xs.length = vs.size ∧ ∀ (i : Nat) (y : Cel), xs[i]? = some y → RelC K y (vs.getD i undef)) (hy : ys.length = us.size ∧ ∀ (i : Nat) (y : Cel), ys[i]? = some y → RelC K y (us.getD i undef)) (w : World) :
    (Op.equalIn Op.maxDepth t (.agg vs) (.agg us)).run P w = .ok b w := by
  obtain ⟨hs, hne, agg, hagg, hg⟩ := eqKinds_good 12 t l h
  rw [hag] at hagg
  cases hagg
  have hlen := eqCs_length hb
  have h1 : From2 K xs vs 0 := ⟨by rw [hx.1]; omega, fun j x hj => by rw [Nat.zero_add]; exact hx.2 j x hj⟩
  have h2 : From2 K ys us 0 := ⟨by rw [hy.1]; omega, fun j x hj => by rw [Nat.zero_add]; exact hy.2 j x hj⟩
  have e1 : vs.extract 0 (0 + l.length) = vs := by rw [← hlen.1, hx.1, Nat.zero_add, Array.extract_size]
  have e2 : us.extract 0 (0 + l.length) = us := by rw [← hlen.2, hy.1, Nat.zero_add, Array.extract_size]
  have := hg K xs ys vs us b 0 9988 w hb h1 h2
  simp only [viewOf, if_true, e1, e2] at this
  exact this

theorem eqOne_ok {P : Program} {K : Ctx} {t : TypeId} {l : List EK} (h : eqKinds P 12 t = some l) (hag : aggT P t = some false) {x y : Cel} {b : Bool} (hb : eqCs l [x] [y] = some b) {u v : Value}
    (hx : RelC K x u) (hy : RelC K y v) (w : World) : (Op.equalIn Op.maxDepth t u v).run P w = .ok b w := by
  obtain ⟨hs, hne, agg, hagg, hg⟩ := eqKinds_good 12 t l h
  rw [hag] at hagg
  cases hagg
  have mk : ∀ (z : Cel) (q : Value), RelC K z q → From2 K [z] #[q] 0 := fun z q hz => ⟨Nat.le_refl _, fun j x hj => by
    cases j with
    | zero => simp only [List.getElem?_cons_zero, Option.some.injEq] at hj; subst hj; exact hz
    | succ j => simp at hj⟩
  have := hg K [x] [y] #[u] #[v] b 0 9988 w hb (mk x u hx) (mk y v hy)
  simp only [viewOf, Bool.false_eq_true, if_false] at this
  exact this

section
variable {P : Program} {Γ : Glob} {E : Nat → Prop} {w : World} {μ κ : Nat → Nat} {h : Heap} {n : Nat} {env : Nat → Option AV} {a : Act}
  {dst : Option Tmp} {type : TypeId} {pos : String} {after : Array Edge} {guard : Option (Nat × Bool)} {ao : AOp} {v : AV}
variable (H : HeapOK Γ E w μ κ h n) (HE : EnvOK (ctx E w μ κ h n) env a)
include H HE

theorem bin_ok {op : BinOp} {t yt : TypeId} {x y : Operand} {x' y' : Arg} (hx : compArg P t x = some x') (hy : compArg P yt y = some y') (hs : step1 Γ ⟨env, h, n⟩ (.bin op x' y') = some v) :
    Look0 P (ctx E w μ κ h n) a ⟨dst, .binOp op t x y yt, type, pos, after, guard⟩ v := by
  simp only [step1] at hs
  split at hs
  · rename_i k p k' q h1 h2
    have e1 := relC_int (relV_c (arg_ok H HE hx h1))
    have e2 := relC_int (relV_c (arg_ok H HE hy h2))
    split at hs
    · rename_i hk
      obtain ⟨z, hz, rfl⟩ := Option.map_eq_some_iff.1 hs
      refine ⟨z, .c (.val (binI_ok (P := P) (t := t) hk hz w).2), fun w' _ => ?_⟩
      simp only [execOp, e1, e2, eqGuard_at_int, Sem.run_bind, Sem.run_pure, Result.andThen_ok, (binI_ok (P := P) (t := t) hk hz w').1]
    · cases hs
  · rename_i p q h1 h2
    have e1 := relC_str (relV_c (arg_ok H HE hx h1))
    have e2 := relC_str (relV_c (arg_ok H HE hy h2))
    obtain ⟨c, hc, rfl⟩ := Option.map_eq_some_iff.1 hs
    obtain ⟨z, _, hr, hrun⟩ := binS_ok (P := P) (t := t) (K := ctx E w μ κ h n) hc w
    refine ⟨z, .c hr, fun w' _ => ?_⟩
    simp only [execOp, e1, e2, eqGuard_at_string, Sem.run_bind, Sem.run_pure, Result.andThen_ok, hrun w']
  · cases hs

omit H HE in
theorem eq_run {neg : Bool} {op : BinOp} {t yt : TypeId} {x y : Operand} {b : Bool} (hop : op = if neg then .neq else .eql) (u v : Value) (hu : a.eval x = u) (hv : a.eval y = v)
    (hgd : ∀ w, (eqGuard op t x y u v).run P w = .ok () w) (hs : binOp .eql t u v = (do pure (.bool (← Op.equal t u v)))) (hs2 : binOp .neq t u v = (do pure (.bool (!(← Op.equal t u v))))) (hr : ∀ w, (Op.equalIn Op.maxDepth t u v).run P w = .ok b w) (w' : World) :
    (execOp a.eval ⟨dst, .binOp op t x y yt, type, pos, after, guard⟩).run P w' = .ok (.value (.bool (if neg then !b else b))) w' := by
  simp only [execOp, hu, hv, Sem.run_bind, hgd, Result.andThen_ok]
  have : (binOp op t u v).run P w' = .ok (.bool (if neg then !b else b)) w' := by
    have e := hr w'
    subst hop
    cases neg
    · simp only [Bool.false_eq_true, if_false, hs, Op.equal, Sem.run_bind, e, Result.andThen_ok, Sem.run_pure]
    · simp only [if_true, hs2, Op.equal, Sem.run_bind, e, Result.andThen_ok, Sem.run_pure]
  simp only [this, Result.andThen_ok, Sem.run_pure]

theorem eq_ok {neg : Bool} {op : BinOp} {t yt : TypeId} {x y : Operand} {x' y' : Arg} (hop : op = if neg then .neq else .eql) (hx : compArg P t x = some x') (hy : compArg P yt y = some y')
    (hc : compEq P neg op t x y x' y' = some ao) (hs : step1 Γ ⟨env, h, n⟩ ao = some v) :
    Look0 P (ctx E w μ κ h n) a ⟨dst, .binOp op t x y yt, type, pos, after, guard⟩ v := by
  unfold compEq at hc
  split at hc
  · simp only [Option.some.injEq] at hc; subst hc; exact bin_ok H HE hx hy hs
  · simp only [Option.some.injEq] at hc; subst hc; exact bin_ok H HE hx hy hs
  · rename_i hu
    obtain ⟨l, hl, rfl⟩ := Option.map_eq_some_iff.1 hc
    simp only [step1] at hs
    split at hs
    · rename_i p q h1 h2
      obtain ⟨r, hr, rfl⟩ := Option.map_eq_some_iff.1 hs
      have r1 := relV_c (arg_ok H HE hx h1)
      have r2 := relV_c (arg_ok H HE hy h2)
      have hag : aggT P t = some false := by simp [aggT, hu]
      -- it is a bool
      have hb : ∃ p' q', p = .val (.bool p') ∧ q = .val (.bool q') := by
        simp only [eqKinds, hu] at hl
        split at hl
        · simp only [Option.some.injEq] at hl
          subst hl
          simp only [eqCs, Option.bind_eq_some_iff] at hr
          obtain ⟨c, hc, _⟩ := hr
          unfold eqC at hc
          split at hc <;> first | exact ⟨_, _, rfl, rfl⟩ | contradiction
        · cases hl
      obtain ⟨p', q', rfl, rfl⟩ := hb
      have e1 := relC_bool r1
      have e2 := relC_bool r2
      refine ⟨_, .c (.val rfl), fun w' _ => ?_⟩
      exact eq_run (yt := yt) (a := a) hop (.bool p') (.bool q') e1 e2 (fun w => by rw [eqGuard_at_bool]; rfl) rfl rfl (eqOne_ok (K := ctx E w μ κ h n) hl hag hr (.val rfl) (.val rfl)) w'
    · cases hs
  all_goals first
    | (cases hc; done)
    | skip
  · rename_i fs hu
    split at hc
    · cases hc
    rename_i hgd
    obtain ⟨l, hl, rfl⟩ := Option.map_eq_some_iff.1 hc
    simp only [step1] at hs
    split at hs
    · rename_i p q h1 h2
      obtain ⟨r, hr, rfl⟩ := Option.map_eq_some_iff.1 hs
      obtain ⟨vs, e1, l1, r1⟩ := relV_agg (arg_ok H HE hx h1)
      obtain ⟨us, e2, l2, r2⟩ := relV_agg (arg_ok H HE hy h2)
      refine ⟨_, .c (.val rfl), fun w' _ => ?_⟩
      exact eq_run (yt := yt) (a := a) hop (.agg vs) (.agg us) e1 e2 (fun w => run_eqGuard_agg w op t x y vs us (by simpa using hgd)) rfl rfl
        (eqAgg_ok hl (by simp [aggT, hu]) hr ⟨l1, r1⟩ ⟨l2, r2⟩) w'
    · cases hs
  · rename_i m e hu
    split at hc
    · cases hc
    rename_i hgd
    obtain ⟨l, hl, rfl⟩ := Option.map_eq_some_iff.1 hc
    simp only [step1] at hs
    split at hs
    · rename_i p q h1 h2
      obtain ⟨r, hr, rfl⟩ := Option.map_eq_some_iff.1 hs
      obtain ⟨vs, e1, l1, r1⟩ := relV_agg (arg_ok H HE hx h1)
      obtain ⟨us, e2, l2, r2⟩ := relV_agg (arg_ok H HE hy h2)
      refine ⟨_, .c (.val rfl), fun w' _ => ?_⟩
      exact eq_run (yt := yt) (a := a) hop (.agg vs) (.agg us) e1 e2 (fun w => run_eqGuard_agg w op t x y vs us (by simpa using hgd)) rfl rfl
        (eqAgg_ok hl (by simp [aggT, hu]) hr ⟨l1, r1⟩ ⟨l2, r2⟩) w'
    · cases hs
  · rename_i e hu
    have nil1' : ∀ (d : Nat) (A : Option Addr) (len cap : Nat) w, (Op.equalIn (d + 1) t (.slice A len cap) (.slice none 0 0)).run P w = .ok A.isNone w := by
      intro d A len cap w
      simp only [Op.equalIn, Sem.run_bind, run_underlying hu, Result.andThen_ok]
      cases A <;> rfl
    have nil2' : ∀ (d : Nat) (A : Option Addr) (len cap : Nat) w, (Op.equalIn (d + 1) t (.slice none 0 0) (.slice A len cap)).run P w = .ok A.isNone w := by
      intro d A len cap w
      simp only [Op.equalIn, Sem.run_bind, run_underlying hu, Result.andThen_ok]
      cases A <;> rfl
    have nil1 := nil1' 9999
    have nil2 := nil2' 9999
    have look : ∀ (z : Arg) (u : Value), z.get Γ env ≠ none → (∀ r, z.get Γ env = some r → RelV (ctx E w μ κ h n) r u) → step1 Γ ⟨env, h, n⟩ (.eqn neg z) = some v →
        ∃ A len cap, u = .slice A len cap ∧ v = .c (.val (.bool (if neg then !A.isNone else A.isNone))) := by
      intro z u _ hz hs
      simp only [step1] at hs
      split at hs
      · rename_i sz xs hg
        simp only [Option.some.injEq] at hs
        have := relV_c (hz _ hg)
        cases this with
        | ro f hn hc hz' hl hs' hcell hrel => exact ⟨_, _, _, rfl, by rw [← hs, hn rfl]; cases neg <;> rfl⟩
      · rename_i b sz off len m hg
        simp only [Option.some.injEq] at hs
        obtain ⟨o, cap, _, rfl, _⟩ := relC_own (relV_c (hz _ hg))
        exact ⟨_, _, _, rfl, by rw [← hs]; cases neg <;> rfl⟩
      · cases hs
    split at hc
    · simp only [Option.some.injEq] at hc
      subst hc
      have hne : x'.get Γ env ≠ none := by intro h0; simp only [step1, h0] at hs; cases hs
      obtain ⟨A, len, cap, he, rfl⟩ := look x' (a.eval x) hne (fun r hr => arg_ok H HE hx hr) hs
      refine ⟨_, .c (.val rfl), fun w' _ => ?_⟩
      exact eq_run (yt := yt) (a := a) hop (.slice A len cap) (.slice none 0 0) he rfl (fun w => by rw [eqGuard_at_slice]; rfl) rfl rfl (nil1 A len cap) w'
    · simp only [Option.some.injEq] at hc
      subst hc
      have hne : y'.get Γ env ≠ none := by intro h0; simp only [step1, h0] at hs; cases hs
      obtain ⟨A, len, cap, he, rfl⟩ := look y' (a.eval y) hne (fun r hr => arg_ok H HE hy hr) hs
      refine ⟨_, .c (.val rfl), fun w' _ => ?_⟩
      exact eq_run (yt := yt) (a := a) hop (.slice none 0 0) (.slice A len cap) rfl he (fun w => by rw [eqGuard_at_slice]; rfl) rfl rfl (nil2 A len cap) w'
    · cases hc
  · rename_i ms hu
    split at hc
    · simp only [Option.some.injEq] at hc
      subst hc
      simp only [step1] at hs
      have nn : ∀ (d : Nat) w, (Op.equalIn (d + 1) t .nilIface .nilIface).run P w = .ok true w := by
        intro d w
        simp only [Op.equalIn, Sem.run_bind, run_underlying hu, Result.andThen_ok]
        rfl
      have ni : ∀ (d : Nat) (ty : TypeId) (u : Value) w, (Op.equalIn (d + 1) t (.iface ty u) .nilIface).run P w = .ok false w := by
        intro d ty u w
        simp only [Op.equalIn, Sem.run_bind, run_underlying hu, Result.andThen_ok]
        rfl
      split at hs
      · rename_i hg
        simp only [Option.some.injEq] at hs
        subst hs
        have he := relC_val (relV_c (arg_ok H HE hx hg))
        refine ⟨_, .c (.val rfl), fun w' _ => ?_⟩
        have := eq_run (dst := dst) (type := type) (pos := pos) (after := after) (guard := guard) (yt := yt) (t := t) (x := x) (y := .const .nilIface) (b := true) (a := a) hop .nilIface .nilIface he rfl (fun w => by cases neg <;> subst hop <;> cases x <;> rfl) rfl rfl (nn 9999) w'
        cases neg <;> exact this
      · rename_i ty u hg
        simp only [Option.some.injEq] at hs
        subst hs
        have he := relC_val (relV_c (arg_ok H HE hx hg))
        refine ⟨_, .c (.val rfl), fun w' _ => ?_⟩
        have := eq_run (dst := dst) (type := type) (pos := pos) (after := after) (guard := guard) (yt := yt) (t := t) (x := x) (y := .const .nilIface) (b := false) (a := a) hop (.iface ty u) .nilIface he rfl (fun w => by cases neg <;> subst hop <;> cases x <;> rfl) rfl rfl (ni 9999 ty u) w'
        cases neg <;> exact this
      · rename_i hg
        simp only [Option.some.injEq] at hs
        subst hs
        obtain ⟨ty, u, he⟩ := relC_opq (relV_c (arg_ok H HE hx hg))
        refine ⟨_, .c (.val rfl), fun w' _ => ?_⟩
        have := eq_run (dst := dst) (type := type) (pos := pos) (after := after) (guard := guard) (yt := yt) (t := t) (x := x) (y := .const .nilIface) (b := false) (a := a) hop (.iface ty u) .nilIface he rfl (fun w => by cases neg <;> subst hop <;> cases x <;> rfl) rfl rfl (ni 9999 ty u) w'
        cases neg <;> exact this
      · cases hs
    · cases hc

theorem binop_ok {op : BinOp} {t yt : TypeId} {x y : Operand} (hc : compBin P op t x y yt = some ao) (hs : step1 Γ ⟨env, h, n⟩ ao = some v) :
    Look0 P (ctx E w μ κ h n) a ⟨dst, .binOp op t x y yt, type, pos, after, guard⟩ v := by
  unfold compBin at hc
  simp only [bind, Option.bind_eq_some_iff] at hc
  obtain ⟨x', hx, y', hy, hc⟩ := hc
  split at hc
  · exact eq_ok H HE (neg := false) rfl hx hy hc hs
  · exact eq_ok H HE (neg := true) rfl hx hy hc hs
  · split at hc
    · simp only [Option.some.injEq] at hc; subst hc; exact bin_ok H HE hx hy hs
    · simp only [Option.some.injEq] at hc; subst hc; exact bin_ok H HE hx hy hs
    · cases hc
/-- a list that is only read, held against nil: it may be nil where it has no elements -/
theorem eqn_any {neg0 : Bool} {op : BinOp} {t yt : TypeId} {x y : Operand} {x' y' : Arg} (hop : op = if neg0 then .neq else .eql) (hx : compArg P t x = some x') (hy : compArg P yt y = some y')
    {neg : Bool} {z : Arg} (hc : compEq P neg0 op t x y x' y' = some (.eqn neg z)) {nl : Bool} {sz : Nat} {xs : List (List Cel)} (hz : z.get Γ env = some (.c (.ro nl sz xs))) :
    ∃ b : Bool, (xs ≠ [] → b = neg) ∧ ∀ w', (execOp a.eval ⟨dst, .binOp op t x y yt, type, pos, after, guard⟩).run P w' = .ok (.value (.bool b)) w' := by
  unfold compEq at hc
  split at hc
  · cases hc
  · cases hc
  · obtain ⟨l, hl, h⟩ := Option.map_eq_some_iff.1 hc
    cases h
  · split at hc
    · cases hc
    · obtain ⟨l, hl, h⟩ := Option.map_eq_some_iff.1 hc
      cases h
  · split at hc
    · cases hc
    · obtain ⟨l, hl, h⟩ := Option.map_eq_some_iff.1 hc
      cases h
  · rename_i e hu
    have nil1' : ∀ (d : Nat) (A : Option Addr) (len cap : Nat) w, (Op.equalIn (d + 1) t (.slice A len cap) (.slice none 0 0)).run P w = .ok A.isNone w := by
      intro d A len cap w
      simp only [Op.equalIn, Sem.run_bind, run_underlying hu, Result.andThen_ok]
      cases A <;> rfl
    have nil2' : ∀ (d : Nat) (A : Option Addr) (len cap : Nat) w, (Op.equalIn (d + 1) t (.slice none 0 0) (.slice A len cap)).run P w = .ok A.isNone w := by
      intro d A len cap w
      simp only [Op.equalIn, Sem.run_bind, run_underlying hu, Result.andThen_ok]
      cases A <;> rfl
    have nil1 : ∀ (A : Option Addr) (len cap : Nat) w, (Op.equalIn Op.maxDepth t (.slice A len cap) (.slice none 0 0)).run P w = .ok A.isNone w := by
      intro A len cap w
      exact nil1' 9999 A len cap w
    have nil2 : ∀ (A : Option Addr) (len cap : Nat) w, (Op.equalIn Op.maxDepth t (.slice none 0 0) (.slice A len cap)).run P w = .ok A.isNone w := by
      intro A len cap w
      exact nil2' 9999 A len cap w
    have look : ∀ u : Value, RelC (ctx E w μ κ h n) (.ro nl sz xs) u → ∃ A len cap, u = .slice A len cap ∧ (xs ≠ [] → A.isNone = false) := by
      intro u hr
      cases hr with
      | ro f hn hc' hz' hl hs' hcell hrel =>
        refine ⟨_, _, _, rfl, fun hne => ?_⟩
        rename_i A
        cases A with
        | some ad => rfl
        | none =>
          exfalso
          have h0 := hz' rfl
          have : xs.length = 0 := by omega
          exact hne (List.eq_nil_of_length_eq_zero this)
    split at hc
    · simp only [Option.some.injEq, AOp.eqn.injEq] at hc
      obtain ⟨rfl, rfl⟩ := hc
      obtain ⟨A, len, cap, he, hA⟩ := look _ (relV_c (arg_ok H HE hx hz))
      refine ⟨if neg0 then !A.isNone else A.isNone, fun hne => ?_, fun w' => eq_run (yt := yt) (a := a) hop (.slice A len cap) (.slice none 0 0) he rfl (fun w => by rw [eqGuard_at_slice]; rfl) rfl rfl (nil1 A len cap) w'⟩
      rw [hA hne]
      cases neg0 <;> rfl
    · simp only [Option.some.injEq, AOp.eqn.injEq] at hc
      obtain ⟨rfl, rfl⟩ := hc
      obtain ⟨A, len, cap, he, hA⟩ := look _ (relV_c (arg_ok H HE hy hz))
      refine ⟨if neg0 then !A.isNone else A.isNone, fun hne => ?_, fun w' => eq_run (yt := yt) (a := a) hop (.slice none 0 0) (.slice A len cap) rfl he (fun w => by rw [eqGuard_at_slice]; rfl) rfl rfl (nil2 A len cap) w'⟩
      rw [hA hne]
      cases neg0 <;> rfl
    · cases hc
  · split at hc <;> cases hc
  · cases hc
theorem eqn_bin {op : BinOp} {t yt : TypeId} {x y : Operand} {neg : Bool} {z : Arg} (hc : compBin P op t x y yt = some (.eqn neg z)) {nl : Bool} {sz : Nat} {xs : List (List Cel)} (hz : z.get Γ env = some (.c (.ro nl sz xs))) :
    ∃ b : Bool, (xs ≠ [] → b = neg) ∧ ∀ w', (execOp a.eval ⟨dst, .binOp op t x y yt, type, pos, after, guard⟩).run P w' = .ok (.value (.bool b)) w' := by
  unfold compBin at hc
  simp only [bind, Option.bind_eq_some_iff] at hc
  obtain ⟨x', hx, y', hy, hc⟩ := hc
  split at hc
  · exact eqn_any H HE (neg0 := false) rfl hx hy hc hz
  · exact eqn_any H HE (neg0 := true) rfl hx hy hc hz
  · split at hc
    · cases hc
    · cases hc
    · cases hc
end
end Go.Proofs.YtolmbcngghkfiaaDoorBv
