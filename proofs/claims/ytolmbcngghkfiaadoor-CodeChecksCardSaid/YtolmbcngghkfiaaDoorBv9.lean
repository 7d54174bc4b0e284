/- The calculus: what a slice's content is; and all operations that only look, together. It proves nothing of any program. -/
import Derived.Test.YtolmbcngghkfiaaDoorBv8
import Derived.Laws.BytesArg
import Derived.MapKept
namespace Go.Proofs.YtolmbcngghkfiaaDoorBv
open Go
set_option linter.unusedVariables false
set_option linter.unusedSimpArgs false

/-- A slice whose elements are told. -/
def SlOK (K : Ctx) (sz : Nat) (es : List (List Cel)) (v : Value) : Prop :=
  ∃ (A : Option Addr) (cap : Nat) (g : Nat → Nat → Value), v = .slice A es.length cap ∧ es.length ≤ cap ∧ (A = none → cap = 0) ∧ ∀ (i : Nat) (e : List Cel), es[i]? = some e → e.length = sz ∧
    ∀ (j : Nat) (x : Cel), e[j]? = some x → (A.bind fun ad => K.w.cell? (ad.add (i * sz + j))) = some (g i j) ∧ RelC K x (g i j)

theorem slContent_ok {Γ : Glob} {E : Nat → Prop} {w : World} {μ κ : Nat → Nat} {h : Heap} {n : Nat} (H : HeapOK Γ E w μ κ h n) {sz : Nat} {c : Cel} {es : List (List Cel)} {v : Value}
    (hs : slContent h sz c = some es) (hr : RelC (ctx E w μ κ h n) c v) : SlOK (ctx E w μ κ h n) sz es v := by
  unfold slContent at hs
  split at hs
  · rename_i nl s xs
    split at hs
    · rename_i hss
      simp only [Option.some.injEq] at hs
      subst hs
      cases hr with
      | @ro _ _ _ cap _ A f hn hc hz hl hs' hcell hrel =>
        simp only [Bool.or_eq_true, decide_eq_true_eq, List.isEmpty_iff] at hss
        refine ⟨A, cap, f, rfl, hc, hz, fun i e he => ?_⟩
        rcases hss with rfl | rfl
        · exact ⟨hl i e he, fun j x hj => ⟨hcell i e he j x hj, (hrel i e he j x hj).mono (Ctx.bare_le _)⟩⟩
        · simp at he
    · cases hs
  · simp only [Option.some.injEq] at hs
    subst hs
    cases hr with
    | @emp _ _ A => exact ⟨A, 0, fun _ _ => undef, rfl, Nat.le_refl _, (fun _ => rfl), fun i e he => by simp at he⟩
  · rename_i b s off len m
    split at hs
    · rename_i s' es' hb
      split at hs
      · rename_i hss
        obtain ⟨h1s, h2s, hle⟩ := hss
        subst h1s
        subst h2s
        simp only [Option.some.injEq] at hs
        subst hs
        obtain ⟨o, cap, hbn, rfl, hl, hm, ho, hk⟩ := relC_own hr
        obtain ⟨C, t, fr, hC, _, _, _, hes⟩ := H.blk b _ hb
        have hlen : ((es'.drop off).take len).length = len := by simp; omega
        refine ⟨some ⟨μ b, o, none⟩, cap, fun i j => C.getD ((off + i) * s' + j) undef, by rw [hlen]; rfl, by omega, (fun h => by cases h), fun i e he => ?_⟩
        rw [List.getElem?_take] at he
        split at he
        · rename_i hi
          rw [List.getElem?_drop] at he
          obtain ⟨h1, h2⟩ := hes _ e he
          refine ⟨h1, fun j x hj => ?_⟩
          obtain ⟨u, hu, hrel⟩ := h2 j x hj
          show ((some (⟨μ b, o, none⟩ : Addr)).bind fun ad => w.cell? (ad.add (i * s' + j))) = some (C.getD ((off + i) * s' + j) undef) ∧ RelC (ctx E w μ κ h n) x (C.getD ((off + i) * s' + j) undef)
          rw [getD_of hu]
          refine ⟨?_, hrel⟩
          have ho' : o = off * s' := by rcases ho with h | h <;> omega
          subst ho'
          simp only [Option.bind_some]
          have hh : (Addr.add ⟨μ b, off * s', none⟩ (i * s' + j)) = ⟨μ b, (off + i) * s' + j, none⟩ := by
            unfold Addr.add
            split
            · rename_i h0
              have : (off + i) * s' + j = off * s' := by rw [Nat.add_mul]; omega
              rw [this]
            · simp only [Nat.add_mul, Nat.add_assoc]
          rw [hh]
          show (match w.heap[μ b]? with | some (Obj.cells c _ _) => if false then none else c[(off + i) * s' + j]? | _ => none) = _
          have hC' : w.heap[μ b]? = some (.cells C t fr) := hC
          rw [hC']
          exact hu
        · cases he
      · cases hs
    · cases hs
  · cases hs

/-! ### maps -/
theorem keyT_ok {P : Program} {t : TypeId} {m : MK} {k e : TypeId} (h : keyT P t = some (m, k, e)) : P.underlying t = some (.map k e) ∧ P.underlying k = some m.desc := by
  unfold keyT at h
  split at h
  · rename_i k' e' hu
    split at h
    · rename_i d hd
      obtain ⟨m', hm, h⟩ := Option.map_eq_some_iff.1 h
      cases h
      refine ⟨hu, ?_⟩
      rw [hd]
      unfold MK.of at hm
      split at hm <;> cases hm <;> rfl
    · cases h
  · cases h
theorem zeroAV_ok {P : Program} {K : Ctx} {t : TypeId} {z : AV} (h : zeroAV P t = some z) : ∃ zv, RelV K z zv ∧ ∀ w, (zeroValue t).run P w = .ok zv w := by
  unfold zeroAV at h
  simp only [bind, Option.bind_eq_some_iff] at h
  obtain ⟨i, hi, h⟩ := h
  split at h
  · rename_i cs hz
    obtain ⟨l, hl, rfl⟩ := Option.map_eq_some_iff.1 h
    have := celsOf_ok (K := K) hl
    exact ⟨.agg cs, .agg (by simpa using this.1) (by simpa using this.2), fun w => by simp only [zeroValue, Sem.run_bind, run_typeInfo' hi, hz, Result.andThen_ok, Sem.run_pure]⟩
  · rename_i zv _ hz
    obtain ⟨c, hc, rfl⟩ := Option.map_eq_some_iff.1 h
    exact ⟨zv, .c (zeroCel_ok hc), fun w => by simp only [zeroValue, Sem.run_bind, run_typeInfo' hi, hz, Result.andThen_ok, Sem.run_pure]⟩
  · cases h
theorem RelC.lax {K : Ctx} {x : Cel} {v : Value} (h : RelC K x v) : RelC K x.lax v := by
  cases h with
  | ro f hn hc hz hl hs hcell hrel => exact .ro f (fun h => by cases h) hc hz hl hs hcell hrel
  | val h => exact .val h
  | str h => exact .str h
  | ref h => exact .ref h
  | own h hl hm ho hk => exact .own h hl hm ho hk
  | rop f hs hcell hrel => exact .rop f hs hcell hrel
  | emp => exact .emp
  | fn h1 h2 r1 r2 => exact .fn h1 h2 r1 r2
  | mp h => exact .mp h
  | opq => exact .opq
theorem RelV.lax {K : Ctx} {x : AV} {v : Value} (h : RelV K x v) : RelV K x.lax v := by
  cases h with
  | c h => exact .c h.lax
  | agg hl r =>
    refine .agg (by simpa using hl) fun i y hi => ?_
    rw [List.getElem?_map] at hi
    obtain ⟨y', hy, rfl⟩ := Option.map_eq_some_iff.1 hi
    exact (r i y' hy).lax
  | tup hl r => exact .tup hl r
theorem mk_i {k : IntKind} {x : Cel} (h : (MK.i k).ok x = true) : ∃ a, x = .val (.int k a) := by
  unfold MK.ok at h
  split at h
  · rename_i heq; cases heq; exact ⟨_, congrArg (fun k => Cel.val (.int k _)) (of_decide_eq_true h)⟩
  · rename_i heq; cases heq
  · rename_i heq; cases heq
  · cases h
theorem mk_s {x : Cel} (h : MK.s.ok x = true) : ∃ a, x = .str a := by
  unfold MK.ok at h
  split at h
  · rename_i heq; cases heq
  · exact ⟨_, rfl⟩
  · rename_i heq; cases heq
  · cases h
theorem mk_b {x : Cel} (h : MK.b.ok x = true) : ∃ a, x = .val (.bool a) := by
  unfold MK.ok at h
  split at h
  · rename_i heq; cases heq
  · rename_i heq; cases heq
  · exact ⟨_, rfl⟩
  · cases h
theorem mk_isKey {K : Ctx} {m : MK} {x : Cel} {v : Value} (h : m.ok x = true) (r : RelC K x v) : MapKept.IsKey m.desc v := by
  cases m with
  | i k => obtain ⟨a, rfl⟩ := mk_i h; rw [relC_int r]; exact rfl
  | s => obtain ⟨a, rfl⟩ := mk_s h; rw [relC_str r]; trivial
  | b => obtain ⟨a, rfl⟩ := mk_b h; rw [relC_bool r]; trivial
theorem mk_free {m : MK} {x : Cel} (h : m.ok x = true) : x.free = true := by
  cases m with
  | i k => obtain ⟨a, rfl⟩ := mk_i h; rfl
  | s => obtain ⟨a, rfl⟩ := mk_s h; rfl
  | b => obtain ⟨a, rfl⟩ := mk_b h; rfl
theorem celEq_iff {K K' : Ctx} {m : MK} {x y : Cel} {u v : Value} (hx : m.ok x = true) (hy : m.ok y = true) (rx : RelC K x u) (ry : RelC K' y v) : celEq x y = true ↔ u = v := by
  cases m with
  | i k => obtain ⟨a, rfl⟩ := mk_i hx; obtain ⟨b, rfl⟩ := mk_i hy; rw [relC_int rx, relC_int ry]; simp [celEq]
  | s => obtain ⟨a, rfl⟩ := mk_s hx; obtain ⟨b, rfl⟩ := mk_s hy; rw [relC_str rx, relC_str ry]; simp [celEq]
  | b => obtain ⟨a, rfl⟩ := mk_b hx; obtain ⟨b, rfl⟩ := mk_b hy; rw [relC_bool rx, relC_bool ry]; simp [celEq]
theorem findNow_rel {K K' : Ctx} {m : MK} {kc : Cel} {u : Value} (hk : m.ok kc = true) (hu : RelC K kc u) : ∀ (es : List (Cel × AV)) (L : List MapEntry) (i : Nat), L.length = es.length →
    (∀ (j : Nat) (k : Cel) (v : AV), es[j]? = some (k, v) → m.ok k = true ∧ ∃ e, L[j]? = some e ∧ RelC K' k e.key ∧ RelV K' v e.val) →
    (findC kc es = none ∧ Instr.findNow m.desc u L i = some none ∧ ∀ v, putC kc v es = es ++ [(kc, v)]) ∨
    ∃ j v e, j < es.length ∧ findC kc es = some v ∧ L[j]? = some e ∧ RelV K' v e.val ∧ Instr.findNow m.desc u L i = some (some (i + j, e.val)) ∧ e.key = u ∧ ∀ v', putC kc v' es = es.set j (kc, v')
  | [], [], i, _, _ => .inl ⟨rfl, rfl, fun _ => rfl⟩
  | [], e :: L, i, hl, _ => by simp at hl
  | p :: es, [], i, hl, _ => by simp at hl
  | (k, v) :: es, e :: L, i, hl, h => by
    obtain ⟨h0, e', he, h1, h2⟩ := h 0 k v rfl
    cases he
    obtain ⟨r, hr, hiff⟩ := MapKept.sameNow_of_keys (mk_isKey hk hu) (mk_isKey h0 h1)
    have hc := celEq_iff hk h0 hu h1
    cases r with
    | true =>
      have e1 : u = e.key := hiff.1 rfl
      have e2 : celEq kc k = true := hc.2 e1
      exact .inr ⟨0, v, e, Nat.zero_lt_succ _, by simp [findC, e2], rfl, h2, by simp [Instr.findNow, hr], e1.symm, fun v' => by simp [putC, e2]⟩
    | false =>
      have e2 : celEq kc k = false := by
        cases hq : celEq kc k with
        | false => rfl
        | true => exact absurd (hiff.2 (hc.1 hq)) (by simp)
      rcases findNow_rel hk hu es L (i + 1) (by simpa using hl) (fun j k v hj => by simpa using h (j + 1) k v (by simpa using hj)) with ⟨g1, g2, g3⟩ | ⟨j, v0, e0, g0, g1, g2, g3, g4, g5, g6⟩
      · exact .inl ⟨by simp [findC, e2, g1], by simp [Instr.findNow, hr, g2], fun v' => by simp [putC, e2, g3]⟩
      · exact .inr ⟨j + 1, v0, e0, by simpa using g0, by simp [findC, e2, g1], by simpa using g2, g3, by simp [Instr.findNow, hr, g4]; omega, g5, fun v' => by simp [putC, e2, g6]⟩
theorem lookV_ok {K : Ctx} {z v : AV} {zv vv : Value} (hz : RelV K z zv) (hv : RelV K v vv) (ok : Bool) :
    RelV K (lookV z ok none) (if ok then .tuple #[zv, .bool false] else zv) ∧ RelV K (lookV z ok (some v)) (if ok then .tuple #[vv, .bool true] else vv) := by
  cases ok with
  | false => exact ⟨hz, hv⟩
  | true =>
    refine ⟨.tup rfl fun i x hi => ?_, .tup rfl fun i x hi => ?_⟩
    · match i with
      | 0 => simp at hi; subst hi; exact hz
      | 1 => simp at hi; subst hi; exact .c (.val rfl)
      | i + 2 => simp at hi
    · match i with
      | 0 => simp at hi; subst hi; exact hv
      | 1 => simp at hi; subst hi; exact .c (.val rfl)
      | i + 2 => simp at hi

section
variable {P : Program} {Γ : Glob} {E : Nat → Prop} {w : World} {μ κ : Nat → Nat} {h : Heap} {n : Nat} {env : Nat → Option AV} {a : Act}
  {dst : Option Tmp} {type : TypeId} {pos : String} {after : Array Edge} {guard : Option (Nat × Bool)} {ao : AOp} {v : AV}
variable (H : HeapOK Γ E w μ κ h n) (HE : EnvOK (ctx E w μ κ h n) env a)
include H HE

theorem ofBytes_ok {s d e : TypeId} {x : Operand} {x' : Arg} (hu : P.underlying s = some (.slice e)) (hd : P.underlying d = some .string) (he8 : P.underlying e = some (.int .u8)) (hx : compArg P s x = some x')
    (hs : step1 Γ ⟨env, h, n⟩ (.ofBytes x') = some v) : LookM true P (ctx E w μ κ h n) a ⟨dst, .convert s d x, type, pos, after, guard⟩ v := by
  simp only [step1] at hs
  split at hs
  · rename_i c hg
    simp only [bind, Option.bind_eq_some_iff, Option.some.injEq] at hs
    obtain ⟨es, hes, l, hl, rfl⟩ := hs
    obtain ⟨A, cap, g, he, _, hz, hcell⟩ := slContent_ok H hes (relV_c (arg_ok H HE hx hg))
    obtain ⟨m1, m2⟩ := mapM_get hl
    -- the cells are the bytes' numbers
    have hbytes : ∀ (i : Nat) (b : UInt8), l[i]? = some b → ∃ (k : Int), (A.bind fun ad => w.cell? (ad.add i)) = some (.int .u8 k) ∧ b = UInt8.ofNat k.toNat := by
      intro i b hb
      have hi : i < es.length := by rw [← m1]; exact (List.getElem?_eq_some_iff.1 hb).1
      obtain ⟨b', hb', hf⟩ := m2 i _ (List.getElem?_eq_getElem hi)
      rw [hb] at hb'
      cases hb'
      have hc := hcell i _ (List.getElem?_eq_getElem hi)
      generalize es[i] = e0 at *
      unfold celByte at hf
      split at hf
      · rename_i k
        simp only [Option.some.injEq] at hf
        obtain ⟨c1, c2⟩ := hc.2 0 _ rfl
        have := relC_int c2
        rw [this] at c1
        refine ⟨k, ?_, hf.symm⟩
        simp only [Nat.mul_one, Nat.add_zero] at c1
        exact c1
      · cases hf
    cases A with
    | none =>
      have hlen : es = [] := by
        cases es with
        | nil => rfl
        | cons e0 es =>
          exfalso
          have := hbytes 0 (l[0]'(by rw [m1]; simp)) (List.getElem?_eq_getElem (by rw [m1]; simp))
          obtain ⟨k, hk, _⟩ := this
          cases hk
      subst hlen
      have : l = [] := List.eq_nil_of_length_eq_zero m1
      subst this
      refine ⟨.string ByteArray.empty, .c (.str rfl), fun w' _ => ?_⟩
      simp only [execOp, he, Sem.run_bind, run_convert_bytes_nil w' s e hu he8 _ _ d hd, Result.andThen_ok, Sem.run_pure]
    | some ad =>
      have hns : ∃ xs : List Int, xs.length = l.length ∧ ∀ i, i < l.length → w.cell? (ad.add i) = some (.int .u8 (xs.getD i 0)) ∧ l[i]? = some (UInt8.ofNat (xs.getD i 0).toNat) := by
        refine ⟨(List.range l.length).map fun i => match w.cell? (ad.add i) with | some (.int _ k) => k | _ => 0, by simp, fun i hi => ?_⟩
        obtain ⟨k, hk, hb⟩ := hbytes i _ (List.getElem?_eq_getElem hi)
        simp only [Option.bind_some] at hk
        have hx : ((List.range l.length).map fun i => match w.cell? (ad.add i) with | some (.int _ k) => k | _ => 0).getD i 0 = k := by
          simp [List.getD, hi, hk]
        rw [hx]
        exact ⟨hk, by rw [List.getElem?_eq_getElem hi, hb]⟩
      obtain ⟨xs, hxl, hxs⟩ := hns
      have hstr : strOfNums xs = ⟨l.toArray⟩ := by
        have : (xs.map fun n => UInt8.ofNat n.toNat) = l := by
          refine List.ext_getElem? fun i => ?_
          by_cases hi : i < l.length
          · rw [(hxs i hi).2, List.getElem?_map, List.getElem?_eq_getElem (by omega)]
            simp [List.getD, List.getElem?_eq_getElem (show i < xs.length by omega)]
          · rw [List.getElem?_eq_none (by simp; omega), List.getElem?_eq_none (by omega)]
        unfold strOfNums
        rw [this]
      refine ⟨.string ⟨l.toArray⟩, .c (.str rfl), fun w' hk => ?_⟩
      have hload : (loadCells ad l.length).run P w' = .ok (xs.map (Value.int .u8)).toArray w' := by
        refine run_loadCells _ (by simp [hxl]) (fun j hj => ?_)
        rw [cell_keep (hk rfl) (hxs j hj).1]
        simp [List.getD, List.getElem?_eq_getElem (show j < xs.length by omega)]
      rw [m1] at hload
      have hconv : (convert s d (.slice (some ad) es.length cap)).run P w' = .ok (.string ⟨l.toArray⟩) w' := by
        rw [run_convert_bytes_string w' s d e _ _ cap hu he8 hd, run_bytesToString w' _ _ cap xs hload, foldl_push_bytes, ← hstr]
        simp [strOfNums, ByteArray.empty, ByteArray.emptyWithCapacity]
        rfl
      simp only [execOp, he, Sem.run_bind, hconv, Result.andThen_ok, Sem.run_pure]
  · cases hs

theorem mlook_ok {t : TypeId} {x k : Operand} {ok : Bool} (hc : compOp P ⟨dst, .lookup t x k ok, type, pos, after, guard⟩ = some ao) (hs : step1 Γ ⟨env, h, n⟩ ao = some v) :
    LookM ao.reads P (ctx E w μ κ h n) a ⟨dst, .lookup t x k ok, type, pos, after, guard⟩ v := by
  simp only [compOp, bind, Option.bind_eq_some_iff, Option.some.injEq] at hc
  obtain ⟨⟨m, kt, et⟩, hq, z, hz, x', hx, k', hk, rfl⟩ := hc
  obtain ⟨hu, hkd⟩ := keyT_ok hq
  obtain ⟨zv, hzr', hzrun⟩ := zeroAV_ok (K := ctx E w μ κ h n) hz
  have hzr := hzr'.lax
  show LookM true P (ctx E w μ κ h n) a ⟨dst, .lookup t x k ok, type, pos, after, guard⟩ v
  simp only [step1] at hs
  split at hs
  · rename_i kc hgx hgk
    split at hs
    · rename_i hko
      cases hs
      have ex : a.eval x = .map none := relC_val (relV_c (arg_ok H HE hx hgx))
      have ek := relV_c (arg_ok H HE hk hgk)
      have hkey := mk_isKey hko ek
      refine ⟨_, (lookV_ok hzr hzr ok).1, fun w' _ => ?_⟩
      have hf : Instr.findNow m.desc (a.eval k) (#[] : Array MapEntry).toList 0 = some none := rfl
      simp only [execOp, Instr.lookup, ex, Sem.run_bind, run_underlying hu, Result.andThen_ok, Sem.run_pure, MapKept.run_checkKey hkd hkey, MapKept.run_findKey hkd hf, hzrun]
    · cases hs
  · rename_i b kc hgx hgk
    split at hs
    · rename_i m' es hb
      split at hs
      · rename_i hcond
        obtain ⟨rfl, hko⟩ := hcond
        cases hs
        have hr := relV_c (arg_ok H HE hx hgx)
        have ek := relV_c (arg_ok H HE hk hgk)
        have hkey := mk_isKey hko ek
        obtain ⟨A, c, hA, hsz, hes⟩ := H.blk b _ hb
        have hAw : w.heap[μ b]? = some (.map A c) := hA
        have ex : a.eval x = .map (some (μ b)) := by
          generalize a.eval x = q at hr
          cases hr with
          | mp h => rfl
        have hlt : μ b < w.heap.size := (Array.getElem?_eq_some_iff.1 hAw).1
        rcases findNow_rel (K' := (ctx E w μ κ h n).bare) hko ek es A.toList 0 (by simpa using hsz.1) (fun j k v hj => by simpa using hes j k v hj) with ⟨g1, g2, g3⟩ | ⟨j, v0, e0, g0, g1, g2, g3, g4, g5, g6⟩
        · rw [g1]
          refine ⟨_, (lookV_ok hzr hzr ok).1, fun w' hkp => ?_⟩
          have hB : w'.heap[μ b]? = some (.map A c) := (hkp rfl _ hlt).trans hAw
          simp only [execOp, Instr.lookup, ex, Sem.run_bind, run_underlying hu, Result.andThen_ok, Sem.run_pure, MapKept.run_getObj_map hB, MapKept.run_checkKey hkd hkey, MapKept.run_findKey hkd g2, hzrun]
        · rw [g1]
          refine ⟨_, (lookV_ok hzr (g3.mono (Ctx.bare_le _)) ok).2, fun w' hkp => ?_⟩
          have hB : w'.heap[μ b]? = some (.map A c) := (hkp rfl _ hlt).trans hAw
          simp only [execOp, Instr.lookup, ex, Sem.run_bind, run_underlying hu, Result.andThen_ok, Sem.run_pure, MapKept.run_getObj_map hB, MapKept.run_checkKey hkd hkey, MapKept.run_findKey hkd g4]
      · cases hs
    · cases hs
  · cases hs

end

theorem step1_ok {P : Program} {Γ : Glob} {E : Nat → Prop} {w : World} {μ κ : Nat → Nat} {h : Heap} {n : Nat} {env : Nat → Option AV} {a : Act} {ao : AOp} {v : AV}
    (H : HeapOK Γ E w μ κ h n) (HE : EnvOK (ctx E w μ κ h n) env a) {o : Oper} (hc : compOp P o = some ao) (hs : step1 Γ ⟨env, h, n⟩ ao = some v) : LookM ao.reads P (ctx E w μ κ h n) a o v := by
  obtain ⟨dst, op, type, pos, after, guard⟩ := o
  have hc0 := hc
  cases op with
  | move x => exact LookM.any (mov_ok H HE hc hs).1
  | assign x => exact LookM.any (mov_ok H HE hc hs).2
  | pick c x y => exact LookM.any (pick_ok H HE hc hs)
  | nilCheck x => exact LookM.any (nilc_ok H HE hc hs)
  | load t x =>
    have hl := load_ok (dst := dst) (type := type) (pos := pos) (after := after) (guard := guard) H HE hc hs
    simp only [compOp, bind, Option.bind_eq_some_iff, Option.some.injEq] at hc
    obtain ⟨_, _, _, _, _, _, rfl⟩ := hc
    exact hl
  | fieldAddr t x f => exact LookM.any (faddr_ok H HE hc hs)
  | field t x f => exact LookM.any (fld_ok H HE hc hs)
  | index t x i => exact LookM.any (idx_ok H HE hc hs)
  | extract t i => exact LookM.any (ext_ok H HE hc hs)
  | lookup t x k ok => exact mlook_ok H HE hc hs
  | makeMap t r =>
    cases r with
    | some q => simp [compOp] at hc
    | none =>
      simp only [compOp] at hc
      obtain ⟨_, _, rfl⟩ := Option.map_eq_some_iff.1 hc
      simp only [step1] at hs
      cases hs
  | mapUpdate t x k v | insert t x k v =>
    simp only [compOp, bind, Option.bind_eq_some_iff, Option.some.injEq] at hc
    obtain ⟨_, _, _, _, _, _, _, _, rfl⟩ := hc
    simp only [step1] at hs
    cases hs
  | unOp op t x => exact LookM.any (un_ok H HE hc hs)
  | build t ps => exact LookM.any (build_ok H HE hc hs)
  | binOp op t x y yt => exact LookM.any (binop_ok H HE hc hs)
  | convert s d x =>
    simp only [compOp, bind, Option.bind_eq_some_iff] at hc
    obtain ⟨y, hy, hc⟩ := hc
    split at hc
    · rename_i k1 k2 h1 h2
      simp only [Option.some.injEq] at hc
      subst hc
      exact LookM.any (conv_ok H HE h2 ⟨_, h1⟩ hy hs)
    · rename_i h1 h2
      simp only [Option.some.injEq] at hc
      subst hc
      simp only [step1] at hs
      split at hs
      · rename_i l hg
        simp only [Option.some.injEq] at hs
        subst hs
        have he := relC_str (relV_c (arg_ok H HE hy hg))
        refine ⟨_, .c (relC_mkstr l), fun w' _ => ?_⟩
        simp only [execOp, he, convert, Sem.run_bind, run_underlying h1, run_underlying h2, Result.andThen_ok, Sem.run_pure]
      · cases hs
    · rename_i e h1 h2
      split at hc
      · simp only [Option.some.injEq] at hc
        subst hc
        simp only [step1] at hs
        cases hs
      · cases hc
    · rename_i e h1 h2
      split at hc
      · rename_i he
        simp only [Option.some.injEq] at hc
        subst hc
        exact ofBytes_ok H HE h1 h2 he hy hs
      · cases hc
    · cases hc
  | makeInterface t x =>
    simp only [compOp] at hc
    split at hc
    · cases hc
    · rename_i d hne hu
      have hrun : ∀ w', (execOp a.eval ⟨dst, .makeInterface t x, type, pos, after, guard⟩).run P w' = .ok (.value (.iface t (a.eval x))) w' := by
        intro w'
        simp only [execOp, Instr.makeInterface, Sem.run_bind, run_underlying hu, Result.andThen_ok]
        cases d <;> first | rfl | exact absurd rfl (hne _)
      split at hc
      · split at hc
        · rename_i v hp
          cases hc
          simp only [step1, Arg.get, Option.some.injEq] at hs
          subst hs
          exact LookM.any ⟨_, .c (.val hp), fun w' _ => hrun w'⟩
        · cases hc
          simp only [step1, Option.some.injEq] at hs
          subst hs
          exact LookM.any ⟨_, .c .opq, fun w' _ => hrun w'⟩
      · cases hc
        simp only [step1, Option.some.injEq] at hs
        subst hs
        exact LookM.any ⟨_, .c .opq, fun w' _ => hrun w'⟩
    · cases hc
  | makeFunc f first captured =>
    simp only [compOp, bind, Option.bind_eq_some_iff, Option.some.injEq] at hc
    obtain ⟨fs, h1, cs, h2, rfl⟩ := hc
    exact LookM.any (mkfn_ok H HE h1 h2 hs)
  | slice t x lo hi mx =>
    simp only [compOp, bind, Option.bind_eq_some_iff] at hc
    obtain ⟨y, hy, l, hl, h', hh, m, hm, hc⟩ := hc
    split at hc
    · rename_i hu
      split at hc
      · rename_i hmx
        simp only [Option.some.injEq] at hc
        subst hc
        obtain rfl : mx = none := by cases mx with | none => rfl | some q => simp at hmx
        exact LookM.any (slStr_ok H HE hu hy hl hh hs)
      · cases hc
    · rename_i e hu
      simp only [Option.bind_eq_some_iff, Option.some.injEq] at hc
      obtain ⟨sz, hsz, rfl⟩ := hc
      cases mx with
      | none =>
        simp only [compOpt, Option.some.injEq] at hm
        subst hm
        exact LookM.any (slSl_ok H HE hu hsz hy hl hh hs)
      | some q =>
        simp only [compOpt, Option.map_eq_some_iff] at hm
        obtain ⟨m', hm', rfl⟩ := hm
        exact LookM.any (slSl3_ok H HE hu hsz hy hl hh hm' hs)
    · split at hc
      · simp only [Option.bind_eq_some_iff, Option.some.injEq] at hc
        obtain ⟨sz, hsz, rfl⟩ := hc
        simp only [step1] at hs
        cases hs
      · cases hc
    · cases hc
  | indexAddr t x i =>
    simp only [compOp, bind, Option.bind_eq_some_iff] at hc
    obtain ⟨j, hj, hc⟩ := hc
    split at hc
    · rename_i e hu
      simp only [Option.bind_eq_some_iff, Option.some.injEq] at hc
      obtain ⟨sz, hsz, y, hy, rfl⟩ := hc
      exact LookM.any (iaddr_ok H HE hu hsz hy hj hs)
    · rename_i m e hu
      split at hc
      · cases hc
      simp only [Option.bind_eq_some_iff, Option.some.injEq] at hc
      obtain ⟨sz, hsz, y, hy, rfl⟩ := hc
      exact LookM.any (iaddrA_ok H HE hu hsz hy hj hs)
    · cases hc
  | alloc e =>
    simp only [compOp] at hc
    split at hc
    · cases hc
      simp only [step1] at hs
      cases hs
    simp only [bind, Option.bind_eq_some_iff, Option.some.injEq] at hc
    obtain ⟨q, _, rfl⟩ := hc
    simp only [step1] at hs
    cases hs
  | box e x =>
    simp only [compOp, Option.map_eq_some_iff] at hc
    obtain ⟨q, _, rfl⟩ := hc
    simp only [step1] at hs
    cases hs
  | buildSlice t len ps =>
    simp only [compOp, bind, Option.bind_eq_some_iff] at hc
    obtain ⟨_, _, _, _, _, _, _, _, hc⟩ := hc
    split at hc
    · simp only [Option.some.injEq] at hc
      subst hc
      simp only [step1] at hs
      cases hs
    · cases hc
  | store t p x =>
    simp only [compOp, bind, Option.bind_eq_some_iff, Option.some.injEq] at hc
    obtain ⟨_, _, _, _, _, _, rfl⟩ := hc
    simp only [step1] at hs
    cases hs
  | makeSlice t l c =>
    simp only [compOp, bind, Option.bind_eq_some_iff] at hc
    obtain ⟨_, _, _, _, _, _, hc⟩ := hc
    split at hc
    · simp only [Option.bind_eq_some_iff, Option.some.injEq] at hc
      obtain ⟨_, _, _, _, rfl⟩ := hc
      simp only [step1] at hs
      cases hs
    · cases hc
  | range t x =>
    simp only [compOp] at hc
    split at hc
    · obtain ⟨_, _, rfl⟩ := Option.map_eq_some_iff.1 hc
      simp only [step1] at hs
      cases hs
    · obtain ⟨_, _, rfl⟩ := Option.map_eq_some_iff.1 hc
      simp only [step1] at hs
      cases hs
    · cases hc
  | entry it =>
    simp only [compOp] at hc
    obtain ⟨_, _, rfl⟩ := Option.map_eq_some_iff.1 hc
    simp only [step1] at hs
    cases hs
  | next it b =>
    cases b with
    | false =>
      simp only [compOp] at hc
      obtain ⟨_, _, rfl⟩ := Option.map_eq_some_iff.1 hc
      simp only [step1] at hs
      cases hs
    | true =>
      simp only [compOp] at hc
      obtain ⟨_, _, rfl⟩ := Option.map_eq_some_iff.1 hc
      simp only [step1] at hs
      cases hs
  | call c =>
    obtain ⟨callee, args, argTypes⟩ := c
    cases callee with
    | invoke r m => simp [compOp] at hc
    | value f =>
      have : step1 Γ ⟨env, h, n⟩ ao = none := by
        cases f <;> simp only [compOp, bind, Option.bind_eq_some_iff, Option.some.injEq] at hc
        case func =>
          split at hc
          · simp only [Option.bind_eq_some_iff, Option.some.injEq] at hc
            obtain ⟨_, _, rfl⟩ := hc
            rfl
          · cases hc
        all_goals
          obtain ⟨_, _, _, _, rfl⟩ := hc
          rfl
      rw [this] at hs
      cases hs
    | builtin b =>
      cases b with
      | len =>
        simp only [compOp] at hc
        split at hc
        · rename_i x t r ha ht
          split at hc
          · rename_i hu
            obtain ⟨y, hy, rfl⟩ := Option.map_eq_some_iff.1 hc
            exact LookM.any (lenS_ok H HE ha ht hu hy hs)
          · rename_i e hu
            obtain ⟨y, hy, rfl⟩ := Option.map_eq_some_iff.1 hc
            exact LookM.any (len_ok H HE ha ht hu hy hs)
          · rename_i m e hu
            simp only [Option.some.injEq] at hc
            subst hc
            exact LookM.any (lenA_ok ha ht hu hs)
          · cases hc
        · cases hc
      | min =>
        simp only [compOp] at hc
        obtain ⟨ys, hy, rfl⟩ := Option.map_eq_some_iff.1 hc
        exact LookM.any (mm_ok (isMax := false) H HE hy hs)
      | max =>
        simp only [compOp] at hc
        obtain ⟨ys, hy, rfl⟩ := Option.map_eq_some_iff.1 hc
        exact LookM.any (mm_ok (isMax := true) H HE hy hs)
      | append =>
        simp only [compOp] at hc
        split at hc
        · simp only [bind, Option.bind_eq_some_iff] at hc
          obtain ⟨_, _, _, _, _, _, _, _, hc⟩ := hc
          split at hc
          · cases hc
          · split at hc
            · simp only [Option.some.injEq] at hc
              subst hc
              simp only [step1] at hs
              cases hs
            · split at hc
              · simp only [Option.some.injEq] at hc
                subst hc
                simp only [step1] at hs
                cases hs
              · cases hc
            · cases hc
        · cases hc
      | copy =>
        simp only [compOp] at hc
        split at hc
        · simp only [bind, Option.bind_eq_some_iff, Option.some.injEq] at hc
          obtain ⟨_, _, _, _, _, _, _, _, _, _, rfl⟩ := hc
          simp only [step1] at hs
          cases hs
        · cases hc
      | clear =>
        simp only [compOp] at hc
        split at hc
        · simp only [bind, Option.bind_eq_some_iff] at hc
          obtain ⟨_, _, _, _, _, _, _, _, hc⟩ := hc
          split at hc
          · simp only [Option.some.injEq] at hc
            subst hc
            simp only [step1] at hs
            cases hs
          · cases hc
        · cases hc
      | _ => simp [compOp] at hc
  | _ => simp [compOp] at hc

end Go.Proofs.YtolmbcngghkfiaaDoorBv
