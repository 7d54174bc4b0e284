/- The calculus: cuts, indexes, lengths. It proves nothing of any program. -/
import Derived.Test.YtolmbcngghkfiaaDoorBv6
namespace Go.Proofs.YtolmbcngghkfiaaDoorBv
open Go
set_option linter.unusedVariables false
set_option linter.unusedSimpArgs false

theorem run_sliceBound {P : Program} {w : World} {k : IntKind} {i : Int} {hi : Nat} {code : BoundsCode} (h : 0 ≤ i ∧ i ≤ hi) : (Instr.sliceBound (.int k i) hi code).run P w = .ok i.toNat w := by
  simp only [Instr.sliceBound, asIntOf, Sem.run_bind, Sem.run_pure, Result.andThen_ok, h, and_self, if_true]

theorem extract_list (l : List UInt8) (a h : Nat) (hl : h ≤ l.length) : (⟨l.toArray⟩ : ByteArray).extract a h = ⟨((l.take h).drop a).toArray⟩ := by
  have : ((⟨l.toArray⟩ : ByteArray).extract a h).data = ((l.take h).drop a).toArray := by
    rw [ByteArray.data_extract]
    simp [List.drop_take]
  cases hh : (⟨l.toArray⟩ : ByteArray).extract a h
  rw [hh] at this
  simp only at this
  rw [this]

section
variable {P : Program} {Γ : Glob} {E : Nat → Prop} {w : World} {μ κ : Nat → Nat} {h : Heap} {n : Nat} {env : Nat → Option AV} {a : Act}
  {dst : Option Tmp} {type : TypeId} {pos : String} {after : Array Edge} {guard : Option (Nat × Bool)} {ao : AOp} {v : AV}
variable (H : HeapOK Γ E w μ κ h n) (HE : EnvOK (ctx E w μ κ h n) env a)
include H HE

theorem bound_ok {d hi : Nat} {x : Option Operand} {y : Option Arg} {b : Nat} (hc : compOpt P 0 x = some y) (hb : boundI Γ env d hi y = some b) :
    (x.map a.eval = none ∧ b = d ∧ y = none) ∨ ∃ k i, x.map a.eval = some (.int k i) ∧ 0 ≤ i ∧ i ≤ hi ∧ b = i.toNat ∧ y.isSome = true := by
  cases x with
  | none =>
    simp only [compOpt, Option.some.injEq] at hc
    subst hc
    simp only [boundI, Option.some.injEq] at hb
    exact .inl ⟨rfl, hb.symm, rfl⟩
  | some x =>
    simp only [compOpt, Option.map_eq_some_iff] at hc
    obtain ⟨z, hz, rfl⟩ := hc
    simp only [boundI] at hb
    split at hb
    · rename_i i hi'
      obtain ⟨k, hk⟩ := getI_ok H HE hz hi'
      split at hb
      · rename_i h0
        simp only [Option.some.injEq] at hb
        exact .inr ⟨k, i, by simp [hk], h0.1, h0.2, hb.symm, rfl⟩
      · cases hb
    · cases hb

/-- the two bounds of a cut without a third -/
theorem bounds_ok {isS : Bool} {len cap top : Nat} {lo hi : Option Operand} {lo' hi' : Option Arg} {l h' : Nat} (hlo : compOpt P 0 lo = some lo') (hhi : compOpt P 0 hi = some hi')
    (hlc : len ≤ cap) (htc : top ≤ cap) (h1 : boundI Γ env len top hi' = some h') (h2 : boundI Γ env 0 h' lo' = some l) :
    (∀ w', (Instr.sliceBounds isS len cap (lo.map a.eval) (hi.map a.eval) none).run P w' = .ok (l, h', cap) w') ∧ l ≤ h' ∧ (h' = len ∨ h' ≤ top) := by
  have e1 := bound_ok H HE hhi h1
  have e2 := bound_ok H HE hlo h2
  refine ⟨fun w' => ?_, ?_, ?_⟩
  · rcases e1 with ⟨e1, rfl, _⟩ | ⟨k, i, e1, i0, i1, rfl, _⟩ <;> rcases e2 with ⟨e2, rfl, _⟩ | ⟨k2, j, e2, j0, j1, rfl, _⟩
    · simp only [Instr.sliceBounds, e1, e2, Sem.run_bind, Sem.run_pure, Result.andThen_ok]
    · simp only [Instr.sliceBounds, e1, e2, Sem.run_bind, Sem.run_pure, Result.andThen_ok, run_sliceBound ⟨j0, j1⟩]
    · have : i ≤ (cap : Int) := by omega
      cases isS <;> simp only [Instr.sliceBounds, e1, e2, Sem.run_bind, Sem.run_pure, Result.andThen_ok, run_sliceBound ⟨i0, this⟩]
    · have : i ≤ (cap : Int) := by omega
      cases isS <;> simp only [Instr.sliceBounds, e1, e2, Sem.run_bind, Sem.run_pure, Result.andThen_ok, run_sliceBound ⟨i0, this⟩, run_sliceBound ⟨j0, j1⟩]
  · rcases e2 with ⟨_, rfl, _⟩ | ⟨_, j, _, j0, j1, rfl, _⟩
    · exact Nat.zero_le _
    · omega
  · rcases e1 with ⟨_, rfl, _⟩ | ⟨_, i, _, i0, i1, rfl, _⟩
    · exact .inl rfl
    · right; omega

theorem slStr_ok {t : TypeId} {x : Operand} {lo hi : Option Operand} {x' : Arg} {lo' hi' : Option Arg} (hu : P.underlying t = some .string) (hx : compArg P t x = some x') (hlo : compOpt P 0 lo = some lo') (hhi : compOpt P 0 hi = some hi')
    (hs : step1 Γ ⟨env, h, n⟩ (.slStr x' lo' hi') = some v) :
    Look0 P (ctx E w μ κ h n) a ⟨dst, .slice t x lo hi none, type, pos, after, guard⟩ v := by
  simp only [step1] at hs
  split at hs
  · rename_i l hg
    split at hs
    · rename_i h1 hh1
      split at hs
      · rename_i a1 ha1
        simp only [Option.some.injEq] at hs
        subst hs
        have he := relC_str (relV_c (arg_ok H HE hx hg))
        obtain ⟨hrun, hle, htop⟩ := bounds_ok (isS := false) H HE hlo hhi (Nat.le_refl _) (Nat.le_refl _) hh1 ha1
        refine ⟨_, .c (relC_mkstr _), fun w' _ => ?_⟩
        simp only [execOp, he, Instr.sliceAt, Instr.slice, Sem.run_bind, run_underlying hu, Result.andThen_ok, Option.map_none, Option.isSome_none, Bool.false_eq_true, if_false, Sem.run_pure, strSize, hrun]
        rw [extract_list l a1 h1 (by rcases htop with rfl | h <;> omega)]
      · cases hs
    · cases hs
  · cases hs

omit H HE in
theorem add_add (ad : Addr) (p q : Nat) : (ad.add p).add q = ad.add (p + q) := by
  unfold Addr.add
  by_cases h1 : p = 0 <;> by_cases h2 : q = 0 <;> simp [h1, h2, Nat.add_assoc]

omit H HE in
theorem ro_cut {K : Ctx} {nl : Bool} {sz : Nat} {xs : List (List Cel)} {A : Option Addr} {len c : Nat} (h : RelC K (.ro nl sz xs) (.slice A len c)) (lo hi : Nat) (hlo : lo ≤ hi) (hhi : hi ≤ xs.length) :
    RelC K (.ro nl sz ((xs.take hi).drop lo)) (.slice (if c = lo then A else A.map (·.add (lo * sz))) (hi - lo) (c - lo)) := by
  cases h with
  | ro f hn hc hz hl hs hcell hrel =>
    have hlen : ((xs.take hi).drop lo).length = hi - lo := by simp; omega
    have hget : ∀ (i : Nat) (e : List Cel), ((xs.take hi).drop lo)[i]? = some e → xs[lo + i]? = some e := by
      intro i e he
      rw [List.getElem?_drop, List.getElem?_take] at he
      split at he
      · exact he
      · cases he
    rw [← hlen]
    refine .ro (fun i j => f (lo + i) j) ?_ (by omega) ?_ (fun i e he => hl _ e (hget i e he)) ?_ ?_ (fun i e he j x hj => hrel _ e (hget i e he) j x hj)
    · intro h0; rw [hn h0]; split <;> rfl
    · intro hA; split at hA
      · omega
      · cases A with
        | none => have := hz rfl; omega
        | some ad => cases hA
    · intro ad hA hne hsz
      have : xs ≠ [] := by intro h0; rw [h0] at hne; simp at hne
      split at hA
      · exact hs ad hA this hsz
      · cases A with
        | none => cases hA
        | some ad' => simp only [Option.map_some, Option.some.injEq] at hA; subst hA; rw [add_block]; exact hs ad' rfl this hsz
    · intro i e he j x hj
      have h1 := hcell _ e (hget i e he) j x hj
      split
      · rename_i hcl
        have : lo + i < xs.length := (List.getElem?_eq_some_iff.1 (hget i e he)).1
        omega
      · cases A with
        | none => cases h1
        | some ad =>
          simp only [Option.map_some, Option.bind_some] at h1 ⊢
          rw [add_add, show lo * sz + (i * sz + j) = (lo + i) * sz + j by rw [Nat.add_mul]; omega]
          exact h1

omit H HE in
theorem own_cut {K : Ctx} {b sz off len m o cap : Nat} (h1 : b < K.n) (h2 : len ≤ m) (h3 : m ≤ cap) (h4 : o = off * sz ∨ cap = 0) (h5 : off + cap ≤ K.κ b) (lo hi c : Nat) (hlo : lo ≤ hi) (hhi : hi ≤ c) (hc : c ≤ cap) (m' : Nat) (hm1 : hi ≤ m') (hm2 : m' ≤ c) :
    RelC K (.own b sz (off + lo) (hi - lo) (m' - lo)) (.slice (if c = lo then some ⟨K.μ b, o, none⟩ else (some ⟨K.μ b, o, none⟩ : Option Addr).map (·.add (lo * sz))) (hi - lo) (c - lo)) := by
  split
  · rename_i he
    have : hi - lo = 0 := by omega
    exact .own h1 (by omega) (by omega) (.inr (by omega)) (by omega)
  · rename_i hne
    simp only [Option.map_some]
    have ho : o = off * sz := by rcases h4 with h | h <;> omega
    have : (Addr.add ⟨K.μ b, o, none⟩ (lo * sz)) = ⟨K.μ b, o + lo * sz, none⟩ := by
      unfold Addr.add
      split
      · rename_i h0; rw [h0]; rfl
      · rfl
    rw [this]
    exact .own h1 (by omega) (by omega) (.inl (by rw [ho, Nat.add_mul])) (by omega)

theorem slSl_ok {t e : TypeId} {sz : Nat} {x : Operand} {lo hi : Option Operand} {x' : Arg} {lo' hi' : Option Arg} (hu : P.underlying t = some (.slice e)) (hsz : sizeT P e = some sz) (hx : compArg P t x = some x') (hlo : compOpt P 0 lo = some lo') (hhi : compOpt P 0 hi = some hi')
    (hs : step1 Γ ⟨env, h, n⟩ (.slSl sz x' lo' hi' none) = some v) :
    Look0 P (ctx E w μ κ h n) a ⟨dst, .slice t x lo hi none, type, pos, after, guard⟩ v := by
  have run : ∀ (A : Option Addr) (len cap l h' : Nat) (w' : World), a.eval x = .slice A len cap → (Instr.sliceBounds true len cap (lo.map a.eval) (hi.map a.eval) none).run P w' = .ok (l, h', cap) w' →
      (execOp a.eval ⟨dst, .slice t x lo hi none, type, pos, after, guard⟩).run P w' = .ok (.value (.slice (if cap = l then A else A.map (·.add (l * sz))) (h' - l) (cap - l))) w' := by
    intro A len cap l h' w' he hb
    simp only [execOp, he, Instr.sliceAt, Instr.slice, Sem.run_bind, run_underlying hu, Result.andThen_ok, Option.map_none, hb, run_sizeOf' hsz, Sem.run_pure]
  simp only [step1] at hs
  split at hs
  · rename_i nl s xs hg
    split at hs
    · rename_i hss
      split at hs
      · rename_i h1 hh1
        split at hs
        · rename_i a1 ha1
          simp only [Option.some.injEq] at hs
          subst hs
          have hr := relV_c (arg_ok H HE hx hg)
          have hex : ∃ A c, a.eval x = .slice A xs.length c ∧ xs.length ≤ c := by
            generalize a.eval x = u at hr
            cases hr with
            | ro f hn hc hz hl hs hcell hrel => exact ⟨_, _, rfl, hc⟩
          obtain ⟨A, c, he, hc⟩ := hex
          obtain ⟨hrun, hle, htop⟩ := bounds_ok (isS := true) H HE hlo hhi hc hc hh1 ha1
          have h1le : h1 ≤ xs.length := by rcases htop with rfl | h <;> omega
          rw [he] at hr
          have hcut := ro_cut hr a1 h1 hle h1le
          simp only [Bool.or_eq_true, decide_eq_true_eq, List.isEmpty_iff] at hss
          refine ⟨_, .c ?_, fun w' _ => run A _ c a1 h1 w' he (hrun w')⟩
          rcases hss with rfl | hemp
          · exact hcut
          · subst hemp
            simp only [List.length_nil, Nat.le_zero] at h1le
            subst h1le
            have : a1 = 0 := by omega
            subst this
            simp only [Nat.zero_mul] at hcut ⊢
            exact hcut
        · cases hs
      · cases hs
    · cases hs
  · rename_i b s off len m hg
    split at hs
    · rename_i hss
      subst hss
      split at hs
      · rename_i h1 hh1
        split at hs
        · rename_i a1 ha1
          simp only [Option.some.injEq] at hs
          subst hs
          obtain ⟨o, cap, hb, he, hl, hm, ho, hk⟩ := relC_own (relV_c (arg_ok H HE hx hg))
          obtain ⟨hrun, hle, htop⟩ := bounds_ok (isS := true) H HE hlo hhi (by omega : len ≤ cap) hm hh1 ha1
          refine ⟨_, .c (own_cut hb hl hm ho hk a1 h1 cap hle (by omega) (Nat.le_refl _) m (by omega) hm), fun w' _ => run _ _ cap a1 h1 w' he (hrun w')⟩
        · cases hs
      · cases hs
    · cases hs
  · cases hs

/-- the three bounds -/
theorem bounds3_ok {len cap c h' l top : Nat} {lo hi mx : Option Operand} {lo' hi' mx' : Option Arg} (hlo : compOpt P 0 lo = some lo') (hhi : compOpt P 0 hi = some hi') (hmx : compOpt P 0 mx = some mx')
    (htop : top ≤ cap) (hm : mx'.isSome = true) (hh : hi'.isSome = true) (h0 : boundI Γ env top top mx' = some c) (h1 : boundI Γ env c c hi' = some h') (h2 : boundI Γ env 0 h' lo' = some l) :
    (∀ w', (Instr.sliceBounds true len cap (lo.map a.eval) (hi.map a.eval) (mx.map a.eval)).run P w' = .ok (l, h', c) w') ∧ l ≤ h' ∧ h' ≤ c ∧ c ≤ top := by
  have e0 := bound_ok H HE hmx h0
  have e1 := bound_ok H HE hhi h1
  have e2 := bound_ok H HE hlo h2
  rcases e0 with ⟨_, _, rfl⟩ | ⟨k0, q, e0, q0, q1, rfl, _⟩
  · cases hm
  rcases e1 with ⟨_, _, rfl⟩ | ⟨k1, i, e1, i0, i1, rfl, _⟩
  · cases hh
  have hq : q ≤ (cap : Int) := by omega
  refine ⟨fun w' => ?_, ?_, by omega, by omega⟩
  · rcases e2 with ⟨e2, rfl, _⟩ | ⟨k2, j, e2, j0, j1, rfl, _⟩
    · simp only [Instr.sliceBounds, e0, e1, e2, Sem.run_bind, Sem.run_pure, Result.andThen_ok, if_true, run_sliceBound ⟨q0, hq⟩, run_sliceBound ⟨i0, i1⟩]
    · simp only [Instr.sliceBounds, e0, e1, e2, Sem.run_bind, Sem.run_pure, Result.andThen_ok, if_true, run_sliceBound ⟨q0, hq⟩, run_sliceBound ⟨i0, i1⟩, run_sliceBound ⟨j0, j1⟩, Option.isSome_some]
  · rcases e2 with ⟨_, rfl, _⟩ | ⟨_, j, _, j0, j1, rfl, _⟩ <;> omega

theorem slSl3_ok {t e : TypeId} {sz : Nat} {x m0 : Operand} {lo hi : Option Operand} {x' m' : Arg} {lo' hi' : Option Arg} (hu : P.underlying t = some (.slice e)) (hsz : sizeT P e = some sz) (hx : compArg P t x = some x') (hlo : compOpt P 0 lo = some lo') (hhi : compOpt P 0 hi = some hi') (hmx : compArg P 0 m0 = some m')
    (hs : step1 Γ ⟨env, h, n⟩ (.slSl sz x' lo' hi' (some m')) = some v) :
    Look0 P (ctx E w μ κ h n) a ⟨dst, .slice t x lo hi (some m0), type, pos, after, guard⟩ v := by
  have hmx' : compOpt P 0 (some m0) = some (some m') := by simp [compOpt, hmx]
  have run : ∀ (A : Option Addr) (len cap l h' c : Nat) (w' : World), a.eval x = .slice A len cap → (Instr.sliceBounds true len cap (lo.map a.eval) (hi.map a.eval) ((some m0).map a.eval)).run P w' = .ok (l, h', c) w' →
      (execOp a.eval ⟨dst, .slice t x lo hi (some m0), type, pos, after, guard⟩).run P w' = .ok (.value (.slice (if c = l then A else A.map (·.add (l * sz))) (h' - l) (c - l))) w' := by
    intro A len cap l h' c w' he hb
    simp only [execOp, he, Instr.sliceAt, Instr.slice, Sem.run_bind, run_underlying hu, Result.andThen_ok, hb, run_sizeOf' hsz, Sem.run_pure]
  simp only [step1] at hs
  split at hs
  · rename_i nl s xs hg
    split at hs
    · rename_i c1 c2 c3 g0 g1 g2
      split at hs
      · rename_i hhs
        simp only [Option.some.injEq] at hs
        subst hs
        have hr := relV_c (arg_ok H HE hx hg)
        have hex : ∃ A c, a.eval x = .slice A xs.length c ∧ (nl = true → A = none) := by
          generalize a.eval x = u at hr
          cases hr with
          | ro f hn hc hz hl hs hcell hrel => exact ⟨_, _, rfl, hn⟩
        obtain ⟨A, c, he, hn⟩ := hex
        have b0 := bound_ok H HE hmx' g0
        have hc1 : c1 = 0 := by rcases b0 with ⟨_, h, _⟩ | ⟨_, i, _, i0, i1, h, _⟩ <;> omega
        have b1 := bound_ok H HE hhi g1
        have hc2 : c2 = 0 := by rcases b1 with ⟨_, h, _⟩ | ⟨_, i, _, i0, i1, h, _⟩ <;> omega
        subst hc1; subst hc2
        obtain ⟨hrun, hle, _, _⟩ := bounds3_ok (len := xs.length) (cap := c) (top := 0) H HE hlo hhi hmx' (Nat.zero_le _) rfl hhs g0 g1 g2
        have hc3 : c3 = 0 := by omega
        subst hc3
        refine ⟨.slice A 0 0, .c ?_, fun w' _ => ?_⟩
        · cases nl with
          | true =>
            rw [hn rfl]
            exact .ro (A := none) (xs := []) (c := 0) (fun _ _ => undef) (fun _ => rfl) (Nat.le_refl _) (fun _ => rfl) (fun i e h => by simp at h) (fun ad h => by cases h) (fun i e h => by simp at h) (fun i e h => by simp at h)
          | false => exact .emp
        · rw [run A _ c 0 0 0 w' he (hrun w')]
          rfl
      · cases hs
    · cases hs
  · rename_i b s off len m hg
    split at hs
    · rename_i hss
      obtain ⟨rfl, hhs⟩ := hss
      split at hs
      · rename_i c1 g0
        split at hs
        · rename_i c2 g1
          split at hs
          · rename_i c3 g2
            simp only [Option.some.injEq] at hs
            subst hs
            obtain ⟨o, cap, hb, he, hl, hm, ho, hk⟩ := relC_own (relV_c (arg_ok H HE hx hg))
            obtain ⟨hrun, hle, h2, h3⟩ := bounds3_ok (len := len) (cap := cap) (top := m) H HE hlo hhi hmx' hm rfl hhs g0 g1 g2
            exact ⟨_, .c (own_cut hb hl hm ho hk c3 c2 c1 hle h2 (by omega) c1 h2 (Nat.le_refl _)), fun w' _ => run _ _ cap c3 c2 c1 w' he (hrun w')⟩
          · cases hs
        · cases hs
      · cases hs
    · cases hs
  · cases hs

theorem iaddr_ok {t e : TypeId} {sz : Nat} {x i : Operand} {x' i' : Arg} (hu : P.underlying t = some (.slice e)) (hsz : sizeT P e = some sz) (hx : compArg P t x = some x') (hi : compArg P 0 i = some i')
    (hs : step1 Γ ⟨env, h, n⟩ (.iaddr sz x' i') = some v) : Look0 P (ctx E w μ κ h n) a ⟨dst, .indexAddr t x i, type, pos, after, guard⟩ v := by
  have run : ∀ (ad : Addr) (len cap : Nat) (k : IntKind) (q : Int) (w' : World), a.eval x = .slice (some ad) len cap → a.eval i = .int k q → 0 ≤ q → q < len →
      (execOp a.eval ⟨dst, .indexAddr t x i, type, pos, after, guard⟩).run P w' = .ok (.value (.pointer (some (ad.add (q.toNat * sz))))) w' := by
    intro ad len cap k q w' he hq h0 h1
    simp only [execOp, he, hq, Instr.indexAt, asIntOf, Sem.run_bind, Sem.run_pure, run_underlying hu, Result.andThen_ok, h0, h1, and_self, if_true, run_sizeOf' hsz]
  simp only [step1] at hs
  split at hs
  · rename_i nl s xs q hg hq
    obtain ⟨k, hk⟩ := getI_ok H HE hi hq
    split at hs
    · rename_i h0
      obtain ⟨h0, rfl⟩ := h0
      split at hs
      · rename_i e' he'
        simp only [Option.some.injEq] at hs
        subst hs
        have hr := relV_c (arg_ok H HE hx hg)
        have hlt : q.toNat < xs.length := (List.getElem?_eq_some_iff.1 he').1
        generalize hu' : a.eval x = u at hr
        cases hr with
        | @ro _ _ _ c _ A f hn hc hz hl hs' hcell hrel =>
          cases A with
          | none => have := hz rfl; omega
          | some ad =>
            refine ⟨.pointer (some (ad.add (q.toNat * s))), .c (.rop (f q.toNat) (fun hne => ?_) (fun j y hj => ?_) (fun j y hj => hrel _ _ he' j y hj)), fun w' _ => run ad _ c k q w' hu' hk h0 (by omega)⟩
            · rw [add_block]
              refine hs' ad rfl (by intro h1; rw [h1] at hlt; simp at hlt) (fun h1 => hne ?_)
              have := hl _ _ he'
              rw [h1] at this
              exact List.eq_nil_of_length_eq_zero this
            · have := hcell _ _ he' j y hj
              simp only [Option.bind_some] at this
              rw [add_add]
              exact this
      · cases hs
    · cases hs
  · rename_i b s off len m q hg hq
    obtain ⟨k, hk⟩ := getI_ok H HE hi hq
    split at hs
    · rename_i h0
      obtain ⟨h0, h1, rfl⟩ := h0
      simp only [Option.some.injEq] at hs
      subst hs
      obtain ⟨o, cap, hb, he, hl, hm, ho, hkk⟩ := relC_own (relV_c (arg_ok H HE hx hg))
      refine ⟨.pointer (some ⟨μ b, (off + q.toNat) * s + 0, none⟩), .c (.ref hb), fun w' _ => ?_⟩
      rw [run _ _ cap k q w' he hk h0 h1]
      congr 3
      have : o = off * s := by rcases ho with h | h <;> omega
      subst this
      unfold Addr.add
      split
      · rename_i hz; simp only [Nat.add_mul, hz, Nat.add_zero]; rfl
      · simp only [Nat.add_mul, Nat.add_zero]; rfl
    · cases hs
  · cases hs

theorem iaddrA_ok {t e : TypeId} {len sz : Nat} {x i : Operand} {x' i' : Arg} (hu : P.underlying t = some (.array len e)) (hsz : sizeT P e = some sz) (hx : compArg P 0 x = some x') (hi : compArg P 0 i = some i')
    (hs : step1 Γ ⟨env, h, n⟩ (.iaddrA len sz x' i') = some v) : Look0 P (ctx E w μ κ h n) a ⟨dst, .indexAddr t x i, type, pos, after, guard⟩ v := by
  have run : ∀ (ad : Addr) (k : IntKind) (q : Int) (w' : World), a.eval x = .pointer (some ad) → a.eval i = .int k q → 0 ≤ q → q < len →
      (execOp a.eval ⟨dst, .indexAddr t x i, type, pos, after, guard⟩).run P w' = .ok (.value (.pointer (some (ad.add (q.toNat * sz))))) w' := by
    intro ad k q w' he hq h0 h1
    simp only [execOp, he, hq, Instr.indexAt, asIntOf, Instr.sureAddr, Sem.run_bind, Sem.run_pure, run_underlying hu, Result.andThen_ok, h0, h1, and_self, if_true, run_sizeOf' hsz]
  simp only [step1] at hs
  split at hs
  · rename_i b s k j q hg hq
    obtain ⟨kk, hk⟩ := getI_ok H HE hi hq
    split at hs
    · rename_i h0
      simp only [Option.some.injEq] at hs
      subst hs
      obtain ⟨hb, he⟩ := relC_ref (relV_c (arg_ok H HE hx hg))
      refine ⟨.pointer (some ⟨μ b, k * s + (j + q.toNat * sz), none⟩), .c (.ref hb), fun w' _ => ?_⟩
      rw [run _ kk q w' he hk h0.1 h0.2]
      congr 3
      unfold Addr.add
      split
      · rename_i hz; rw [hz]; rfl
      · simp only [Nat.add_assoc]; rfl
    · cases hs
  · rename_i cs q hg hq
    obtain ⟨kk, hk⟩ := getI_ok H HE hi hq
    split at hs
    · rename_i h0
      simp only [Option.some.injEq] at hs
      subst hs
      obtain ⟨ad, f, he, hss, hcell, hrel⟩ := relC_rop (relV_c (arg_ok H HE hx hg))
      refine ⟨.pointer (some (ad.add (q.toNat * sz))), .c (.rop (fun j => f (q.toNat * sz + j)) (fun hne => ?_) (fun j y hj => ?_) (fun j y hj => ?_)), fun w' _ => run ad kk q w' he hk h0.1 h0.2⟩
      · rw [add_block]; exact hss (by intro h1; rw [h1] at hne; simp at hne)
      · rw [List.getElem?_drop] at hj; rw [add_add]; exact hcell _ _ hj
      · rw [List.getElem?_drop] at hj; exact hrel _ _ hj
    · cases hs
  · cases hs

theorem lenS_ok {t : TypeId} {x : Operand} {x' : Arg} {args : Array Operand} {argTypes : Array TypeId} {r : List TypeId} (ha : args.toList = [x]) (ht : argTypes.toList = t :: r)
    (hu : P.underlying t = some .string) (hx : compArg P t x = some x') (hs : step1 Γ ⟨env, h, n⟩ (.lenS x') = some v) :
    Look0 P (ctx E w μ κ h n) a ⟨dst, .call { callee := .builtin .len, args, argTypes }, type, pos, after, guard⟩ v := by
  simp only [step1] at hs
  split at hs
  · rename_i l hg
    simp only [Option.some.injEq] at hs
    subst hs
    have he := relC_str (relV_c (arg_ok H HE hx hg))
    obtain rfl : args = #[x] := by cases args; simp_all
    obtain rfl : argTypes = (t :: r).toArray := by cases argTypes; simp_all
    refine ⟨_, .c (.val rfl), fun w' _ => ?_⟩
    simp only [execOp, resolve, invoke, builtin, Builtin.len_, Sem.run_bind, Sem.run_pure, Result.andThen_ok, List.map_toArray, List.map_cons, List.map_nil, he]
    simp [run_underlying hu]
    rfl
  · cases hs

theorem len_ok {t e : TypeId} {x : Operand} {x' : Arg} {args : Array Operand} {argTypes : Array TypeId} {r : List TypeId} (ha : args.toList = [x]) (ht : argTypes.toList = t :: r)
    (hu : P.underlying t = some (.slice e)) (hx : compArg P t x = some x') (hs : step1 Γ ⟨env, h, n⟩ (.len x') = some v) :
    Look0 P (ctx E w μ κ h n) a ⟨dst, .call { callee := .builtin .len, args, argTypes }, type, pos, after, guard⟩ v := by
  obtain rfl : args = #[x] := by cases args; simp_all
  obtain rfl : argTypes = (t :: r).toArray := by cases argTypes; simp_all
  have run : ∀ (A : Option Addr) (len cap : Nat) (w' : World), a.eval x = .slice A len cap → (execOp a.eval ⟨dst, .call { callee := .builtin .len, args := #[x], argTypes := (t :: r).toArray }, type, pos, after, guard⟩).run P w' = .ok (.value (.int .i64 len)) w' := by
    intro A len cap w' he
    simp only [execOp, resolve, invoke, builtin, Builtin.len_, Sem.run_bind, Sem.run_pure, Result.andThen_ok, List.map_toArray, List.map_cons, List.map_nil, he]
    simp [run_underlying hu]
    rfl
  simp only [step1] at hs
  split at hs
  · rename_i nl s xs hg
    simp only [Option.some.injEq] at hs
    subst hs
    have hr := relV_c (arg_ok H HE hx hg)
    have hex : ∃ A c, a.eval x = .slice A xs.length c := by
      generalize a.eval x = u at hr
      cases hr with
      | ro f hn hc hz hl hs hcell hrel => exact ⟨_, _, rfl⟩
    obtain ⟨A, c, he⟩ := hex
    exact ⟨_, .c (.val rfl), fun w' _ => run _ _ _ w' he⟩
  · rename_i b s off len m hg
    simp only [Option.some.injEq] at hs
    subst hs
    obtain ⟨o, cap, _, he, _⟩ := relC_own (relV_c (arg_ok H HE hx hg))
    exact ⟨_, .c (.val rfl), fun w' _ => run _ _ _ w' he⟩
  · rename_i s hg
    simp only [Option.some.injEq] at hs
    subst hs
    have hr := relV_c (arg_ok H HE hx hg)
    have hex : ∃ ad, a.eval x = .slice ad 0 0 := by
      generalize a.eval x = u at hr
      cases hr with
      | emp => exact ⟨_, rfl⟩
    obtain ⟨A, he⟩ := hex
    exact ⟨_, .c (.val rfl), fun w' _ => run _ _ _ w' he⟩
  · cases hs

omit H HE in
theorem lenA_ok {t e : TypeId} {m : Nat} {x : Operand} {args : Array Operand} {argTypes : Array TypeId} {r : List TypeId} (ha : args.toList = [x]) (ht : argTypes.toList = t :: r)
    (hu : P.underlying t = some (.array m e)) (hs : step1 Γ ⟨env, h, n⟩ (.lenA m) = some v) :
    Look0 P (ctx E w μ κ h n) a ⟨dst, .call { callee := .builtin .len, args, argTypes }, type, pos, after, guard⟩ v := by
  obtain rfl : args = #[x] := by cases args; simp_all
  obtain rfl : argTypes = (t :: r).toArray := by cases argTypes; simp_all
  simp only [step1, Option.some.injEq] at hs
  subst hs
  refine ⟨_, .c (.val rfl), fun w' _ => ?_⟩
  simp only [execOp, resolve, invoke, builtin, Builtin.len_, Sem.run_bind, Sem.run_pure, Result.andThen_ok, List.map_toArray, List.map_cons, List.map_nil]
  simp [run_underlying hu]
  rfl

theorem compArgs_ok {ts : List TypeId} {xs : List Operand} {ys : List Arg} (hc : compArgs P ts xs = some ys) :
    ys.length = xs.length ∧ ∀ (i : Nat) (y : Arg) (u : AV), ys[i]? = some y → y.get Γ env = some u → ∃ x, xs[i]? = some x ∧ RelV (ctx E w μ κ h n) u (a.eval x) := by
  unfold compArgs at hc
  obtain ⟨h1, h2⟩ := mapM_get hc
  have hz : (xs.zip (ts ++ List.replicate xs.length 0)).length = xs.length := by simp
  rw [hz] at h1
  refine ⟨h1, fun i y u hy hu => ?_⟩
  have hi : i < xs.length := by rw [← h1]; exact (List.getElem?_eq_some_iff.1 hy).1
  have hlt : i < (xs.zip (ts ++ List.replicate xs.length 0)).length := by rw [hz]; exact hi
  obtain ⟨y', hy', hf⟩ := h2 i _ (List.getElem?_eq_getElem hlt)
  rw [hy] at hy'
  cases hy'
  refine ⟨xs[i], List.getElem?_eq_getElem hi, ?_⟩
  have hf' : compArg P ((ts ++ List.replicate xs.length 0)[i]'(by simp; omega)) xs[i] = some y := by
    have := hf
    simp only [List.getElem_zip] at this
    exact this
  exact arg_ok H HE hf' hu

omit H HE in
theorem mm2_none1 {isMax : Bool} {v : Value} {y : Option Value} (h : ∀ k q, v ≠ .int k q) : mm2 isMax (some v) y = none := by
  cases v <;> first | rfl | exact absurd rfl (h _ _)
omit H HE in
theorem mm2_none2 {isMax : Bool} {v : Value} {y : Option Value} (h : ∀ k q, v ≠ .int k q) : mm2 isMax y (some v) = none := by
  cases y with
  | none => rfl
  | some y => cases y <;> cases v <;> first | rfl | exact absurd rfl (h _ _)
omit H HE in
theorem mm_run {isMax : Bool} {k k' : IntKind} {x y : Int} {w' : World} : ((if isMax then Builtin.max2 else Builtin.min2) (.int k x) (.int k' y)).run P w' = .ok (.int k (if isMax then (if y > x then y else x) else (if y < x then y else x))) w' := by
  cases isMax <;> rfl

theorem mm_ok {isMax : Bool} {args : Array Operand} {argTypes : Array TypeId} {ys : List Arg} (hc : compArgs P argTypes.toList args.toList = some ys) (hs : step1 Γ ⟨env, h, n⟩ (.mm isMax ys) = some v) :
    Look0 P (ctx E w μ κ h n) a ⟨dst, .call { callee := .builtin (if isMax then .max else .min), args, argTypes }, type, pos, after, guard⟩ v := by
  have hargs := compArgs_ok (Γ := Γ) H HE hc
  simp only [step1] at hs
  split at hs
  · cases hs
  · rename_i y r
    obtain ⟨z, hz, hv⟩ := Option.bind_eq_some_iff.1 hs
    split at hv
    · rename_i k q
      simp only [Option.some.injEq] at hv
      subst hv
      -- the fold, value by value
      have key : ∀ (z : Value) (r : List Arg) (os : List Operand) (u : Option Value) (cu : Value), r.length = os.length → (∀ (i : Nat) (y : Arg) (u : AV), r[i]? = some y → y.get Γ env = some u → ∃ x, os[i]? = some x ∧ RelV (ctx E w μ κ h n) u (a.eval x)) →
          r.foldl (fun acc y => mm2 isMax acc ((y.get Γ env).bind valOf)) u = some z → u = some cu → (∃ k q, cu = .int k q) →
          ∀ w', ((os.map a.eval).foldlM (if isMax then Builtin.max2 else Builtin.min2) cu).run P w' = .ok z w' := by
        intro z r
        induction r with
        | nil =>
          intro os u cu hl _ hf hu _ w'
          have : os = [] := List.eq_nil_of_length_eq_zero (by simpa using hl.symm)
          subst this
          simp only [List.foldl_nil] at hf
          rw [hu] at hf
          cases hf
          rfl
        | cons y r ih =>
          intro os u cu hl hg hf hu hi w'
          obtain ⟨k0, q0, rfl⟩ := hi
          subst hu
          cases os with
          | nil => simp at hl
          | cons o os =>
            simp only [List.foldl_cons] at hf
            have hnone : ∀ (r : List Arg), r.foldl (fun acc y => mm2 isMax acc ((y.get Γ env).bind valOf)) none = none := by
              intro r
              induction r with
              | nil => rfl
              | cons y r ih => simp only [List.foldl_cons]; exact ih
            cases hy : (y.get Γ env).bind valOf with
            | none => rw [hy] at hf; rw [show ∀ u, mm2 isMax u none = none from fun u => by cases u with | none => rfl | some u => cases u <;> rfl] at hf; rw [hnone] at hf; cases hf
            | some yv =>
              obtain ⟨av, ha, hv'⟩ := Option.bind_eq_some_iff.1 hy
              obtain ⟨x, hx, hr⟩ := hg 0 y av rfl ha
              simp only [List.getElem?_cons_zero, Option.some.injEq] at hx
              subst hx
              cases av with
              | c c =>
                cases c with
                | val vv =>
                  simp only [valOf, Option.some.injEq] at hv'
                  subst hv'
                  have he := relC_val (relV_c hr)
                  rw [hy] at hf
                  cases vv with
                  | int k1 q1 =>
                    simp only [mm2] at hf
                    simp only [List.map_cons, List.foldlM_cons, he, Sem.run_bind, mm_run, Result.andThen_ok]
                    exact ih os _ _ (by simpa using hl) (fun i y u hi hu => by simpa using hg (i + 1) y u (by simpa using hi) hu) hf rfl ⟨_, _, rfl⟩ w'
                  | _ => rw [mm2_none2 (by simp)] at hf; rw [hnone] at hf; cases hf
                | _ => simp [valOf] at hv'
              | _ => simp [valOf] at hv'
      obtain ⟨hlen, hg⟩ := hargs
      cases ho : args.toList with
      | nil => rw [ho] at hlen; simp at hlen
      | cons o os =>
        rw [ho] at hlen hg
        have hnone : ∀ (r : List Arg), r.foldl (fun acc y => mm2 isMax acc ((y.get Γ env).bind valOf)) none = none := by
          intro r
          induction r with
          | nil => rfl
          | cons y r ih => simp only [List.foldl_cons]; exact ih
        cases hy : (y.get Γ env).bind valOf with
        | none => rw [hy, hnone] at hz; cases hz
        | some yv =>
          obtain ⟨av, ha, hv'⟩ := Option.bind_eq_some_iff.1 hy
          obtain ⟨x, hx, hr⟩ := hg 0 y av rfl ha
          simp only [List.getElem?_cons_zero, Option.some.injEq] at hx
          subst hx
          rw [hy] at hz
          have hyv : ∃ k q, yv = .int k q ∧ a.eval o = .int k q := by
            cases av with
            | c c =>
              cases c with
              | val vv =>
                simp only [valOf, Option.some.injEq] at hv'
                subst hv'
                have he := relC_val (relV_c hr)
                cases hvv : vv with
                | int k1 q1 => exact ⟨_, _, rfl, by rw [he, hvv]⟩
                | _ =>
                  exfalso
                  subst hvv
                  cases r with
                  | nil => simp at hz
                  | cons y2 r2 => simp only [List.foldl_cons] at hz; rw [mm2_none1 (by simp), hnone] at hz; cases hz
              | _ => simp [valOf] at hv'
            | _ => simp [valOf] at hv'
          obtain ⟨k1, q1, rfl, he⟩ := hyv
          obtain rfl : args = (o :: os).toArray := by cases args; simp_all
          refine ⟨.int k q, .c (.val rfl), fun w' _ => ?_⟩
          have := key _ r os _ _ (by simpa using hlen) (fun i y u hi hu => by simpa using hg (i + 1) y u (by simpa using hi) hu) hz rfl ⟨_, _, rfl⟩ w'
          cases isMax
          · simp only [Bool.false_eq_true, if_false] at this ⊢
            simp only [execOp, resolve, invoke, builtin, Builtin.min_, Sem.run_bind, Sem.run_pure, Result.andThen_ok, List.map_toArray, List.map_cons, he, List.toList_toArray]
            rw [this]
            rfl
          · simp only [if_true] at this ⊢
            simp only [execOp, resolve, invoke, builtin, Builtin.max_, Sem.run_bind, Sem.run_pure, Result.andThen_ok, List.map_toArray, List.map_cons, he, List.toList_toArray]
            rw [this]
            rfl
    · cases hv

theorem mkfn_ok {f : Fn} {first captured : Array Operand} {fs cs : List Arg} (h1 : compArgs P [] first.toList = some fs) (h2 : compArgs P [] captured.toList = some cs) (hs : step1 Γ ⟨env, h, n⟩ (.mkfn f fs cs) = some v) :
    Look0 P (ctx E w μ κ h n) a ⟨dst, .makeFunc f first captured, type, pos, after, guard⟩ v := by
  simp only [step1, bind, Option.bind_eq_some_iff, Option.some.injEq] at hs
  obtain ⟨l1, m1, l2, m2, rfl⟩ := hs
  have part : ∀ (os : Array Operand) (as : List Arg) (l : List Cel), compArgs P [] os.toList = some as → as.mapM (fun x => (x.get Γ env).bind celOf) = some l →
      l.length = (os.map a.eval).size ∧ ∀ (i : Nat) (x : Cel), l[i]? = some x → RelC (ctx E w μ κ h n) x ((os.map a.eval).getD i undef) := by
    intro os as l hc hm
    obtain ⟨g1, g2⟩ := compArgs_ok (Γ := Γ) H HE hc
    obtain ⟨k1, k2⟩ := mapM_get hm
    refine ⟨by rw [k1, g1]; simp, fun i x hx => ?_⟩
    have hi : i < as.length := by rw [← k1]; exact (List.getElem?_eq_some_iff.1 hx).1
    obtain ⟨y, hy, hf⟩ := k2 i _ (List.getElem?_eq_getElem hi)
    rw [hx] at hy
    cases hy
    obtain ⟨av, ha, hc'⟩ := Option.bind_eq_some_iff.1 hf
    obtain ⟨o, ho, hr⟩ := g2 i _ av (List.getElem?_eq_getElem hi) ha
    cases av with
    | c c =>
      simp only [celOf, Option.some.injEq] at hc'
      subst hc'
      have hoi : os[i]? = some o := by simpa using ho
      rw [getD_of (v := a.eval o) (by rw [Array.getElem?_map, hoi]; rfl)]
      exact relV_c hr
    | _ => simp [celOf] at hc'
  obtain ⟨p1, p2⟩ := part first fs l1 h1 m1
  obtain ⟨q1, q2⟩ := part captured cs l2 h2 m2
  exact ⟨_, .c (.fn p1 q1 p2 q2), fun w' _ => rfl⟩
end
end Go.Proofs.YtolmbcngghkfiaaDoorBv
