/- The calculus: what a slice's content is; and all operations that only look, together. It proves nothing of any program. -/
import Derived.Test.YtdmmjgjmfpalhaaDoorBv8
import Derived.Laws.BytesArg
namespace Go.Proofs.YtdmmjgjmfpalhaaDoorBv
open Go
set_option linter.unusedVariables false
set_option linter.unusedSimpArgs false

/-- A slice whose elements are told. -/
def SlOK (K : Ctx) (sz : Nat) (es : List (List Cel)) (v : Value) : Prop :=
  ∃ (A : Option Addr) (cap : Nat) (g : Nat → Nat → Value), v = .slice A es.length cap ∧ es.length ≤ cap ∧ (A = none → cap = 0) ∧ ∀ (i : Nat) (e : List Cel), es[i]? = some e → e.length = sz ∧
    ∀ (j : Nat) (x : Cel), e[j]? = some x → (A.bind fun ad => K.w.cell? (ad.add (i * sz + j))) = some (g i j) ∧ RelC K x (g i j)

theorem slContent_ok {Γ : Glob} {E : Nat → Prop} {w : World} {μ κ : Nat → Nat} {h : Heap} {n : Nat} (H : HeapOK Γ E w μ κ h n) {sz : Nat} {c : Cel} {es : List (List Cel)} {v : Value}
    (hs : slContent h sz c = some es) (hr : RelC (ctx E w μ κ h n) c v) : SlOK (ctx E w μ κ h n) sz es v := by
  unfold slContent at hs
  split at hs
  · rename_i nl s xs
    split at hs
    · rename_i hss
      simp only [Option.some.injEq] at hs
      subst hs
      cases hr with
      | @ro _ _ _ cap _ A f hn hc hz hl hs' hcell hrel =>
        simp only [Bool.or_eq_true, decide_eq_true_eq, List.isEmpty_iff] at hss
        refine ⟨A, cap, f, rfl, hc, hz, fun i e he => ?_⟩
        rcases hss with rfl | rfl
        · exact ⟨hl i e he, fun j x hj => ⟨hcell i e he j x hj, (hrel i e he j x hj).mono (Ctx.bare_le _)⟩⟩
        · simp at he
    · cases hs
  · simp only [Option.some.injEq] at hs
    subst hs
    cases hr with
    | @emp _ _ A => exact ⟨A, 0, fun _ _ => undef, rfl, Nat.le_refl _, (fun _ => rfl), fun i e he => by simp at he⟩
  · rename_i b s off len m
    split at hs
    · rename_i s' es' hb
      split at hs
      · rename_i hss
        obtain ⟨h1s, h2s, hle⟩ := hss
        subst h1s
        subst h2s
        simp only [Option.some.injEq] at hs
        subst hs
        obtain ⟨o, cap, hbn, rfl, hl, hm, ho, hk⟩ := relC_own hr
        obtain ⟨C, t, fr, hC, _, _, _, hes⟩ := H.blk b _ hb
        have hlen : ((es'.drop off).take len).length = len := by simp; omega
        refine ⟨some ⟨μ b, o, none⟩, cap, fun i j => C.getD ((off + i) * s' + j) undef, by rw [hlen]; rfl, by omega, (fun h => by cases h), fun i e he => ?_⟩
        rw [List.getElem?_take] at he
        split at he
        · rename_i hi
          rw [List.getElem?_drop] at he
          obtain ⟨h1, h2⟩ := hes _ e he
          refine ⟨h1, fun j x hj => ?_⟩
          obtain ⟨u, hu, hrel⟩ := h2 j x hj
          show ((some (⟨μ b, o, none⟩ : Addr)).bind fun ad => w.cell? (ad.add (i * s' + j))) = some (C.getD ((off + i) * s' + j) undef) ∧ RelC (ctx E w μ κ h n) x (C.getD ((off + i) * s' + j) undef)
          rw [getD_of hu]
          refine ⟨?_, hrel⟩
          have ho' : o = off * s' := by rcases ho with h | h <;> omega
          subst ho'
          simp only [Option.bind_some]
          have hh : (Addr.add ⟨μ b, off * s', none⟩ (i * s' + j)) = ⟨μ b, (off + i) * s' + j, none⟩ := by
            unfold Addr.add
            split
            · rename_i h0
              have : (off + i) * s' + j = off * s' := by rw [Nat.add_mul]; omega
              rw [this]
            · simp only [Nat.add_mul, Nat.add_assoc]
          rw [hh]
          show (match w.heap[μ b]? with | some (Obj.cells c _ _) => if false then none else c[(off + i) * s' + j]? | _ => none) = _
          have hC' : w.heap[μ b]? = some (.cells C t fr) := hC
          rw [hC']
          exact hu
        · cases he
      · cases hs
    · cases hs
  · cases hs

section
variable {P : Program} {Γ : Glob} {E : Nat → Prop} {w : World} {μ κ : Nat → Nat} {h : Heap} {n : Nat} {env : Nat → Option AV} {a : Act}
  {dst : Option Tmp} {type : TypeId} {pos : String} {after : Array Edge} {guard : Option (Nat × Bool)} {ao : AOp} {v : AV}
variable (H : HeapOK Γ E w μ κ h n) (HE : EnvOK (ctx E w μ κ h n) env a)
include H HE

theorem ofBytes_ok {s d e : TypeId} {x : Operand} {x' : Arg} (hu : P.underlying s = some (.slice e)) (hd : P.underlying d = some .string) (he8 : P.underlying e = some (.int .u8)) (hx : compArg P s x = some x')
    (hs : step1 Γ ⟨env, h, n⟩ (.ofBytes x') = some v) : LookM true P (ctx E w μ κ h n) a ⟨dst, .convert s d x, type, pos, after, guard⟩ v := by
  simp only [step1] at hs
  split at hs
  · rename_i c hg
    simp only [bind, Option.bind_eq_some_iff, Option.some.injEq] at hs
    obtain ⟨es, hes, l, hl, rfl⟩ := hs
    obtain ⟨A, cap, g, he, _, hz, hcell⟩ := slContent_ok H hes (relV_c (arg_ok H HE hx hg))
    obtain ⟨m1, m2⟩ := mapM_get hl
    -- the cells are the bytes' numbers
    have hbytes : ∀ (i : Nat) (b : UInt8), l[i]? = some b → ∃ (k : Int), (A.bind fun ad => w.cell? (ad.add i)) = some (.int .u8 k) ∧ b = UInt8.ofNat k.toNat := by
      intro i b hb
      have hi : i < es.length := by rw [← m1]; exact (List.getElem?_eq_some_iff.1 hb).1
      obtain ⟨b', hb', hf⟩ := m2 i _ (List.getElem?_eq_getElem hi)
      rw [hb] at hb'
      cases hb'
      have hc := hcell i _ (List.getElem?_eq_getElem hi)
      generalize es[i] = e0 at *
      unfold celByte at hf
      split at hf
      · rename_i k
        simp only [Option.some.injEq] at hf
        obtain ⟨c1, c2⟩ := hc.2 0 _ rfl
        have := relC_int c2
        rw [this] at c1
        refine ⟨k, ?_, hf.symm⟩
        simp only [Nat.mul_one, Nat.add_zero] at c1
        exact c1
      · cases hf
    cases A with
    | none =>
      have hlen : es = [] := by
        cases es with
        | nil => rfl
        | cons e0 es =>
          exfalso
          have := hbytes 0 (l[0]'(by rw [m1]; simp)) (List.getElem?_eq_getElem (by rw [m1]; simp))
          obtain ⟨k, hk, _⟩ := this
          cases hk
      subst hlen
      have : l = [] := List.eq_nil_of_length_eq_zero m1
      subst this
      refine ⟨.string ByteArray.empty, .c (.str rfl), fun w' _ => ?_⟩
      simp only [execOp, he, Sem.run_bind, run_convert_bytes_nil w' s e hu he8 _ _ d hd, Result.andThen_ok, Sem.run_pure]
    | some ad =>
      have hns : ∃ xs : List Int, xs.length = l.length ∧ ∀ i, i < l.length → w.cell? (ad.add i) = some (.int .u8 (xs.getD i 0)) ∧ l[i]? = some (UInt8.ofNat (xs.getD i 0).toNat) := by
        refine ⟨(List.range l.length).map fun i => match w.cell? (ad.add i) with | some (.int _ k) => k | _ => 0, by simp, fun i hi => ?_⟩
        obtain ⟨k, hk, hb⟩ := hbytes i _ (List.getElem?_eq_getElem hi)
        simp only [Option.bind_some] at hk
        have hx : ((List.range l.length).map fun i => match w.cell? (ad.add i) with | some (.int _ k) => k | _ => 0).getD i 0 = k := by
          simp [List.getD, hi, hk]
        rw [hx]
        exact ⟨hk, by rw [List.getElem?_eq_getElem hi, hb]⟩
      obtain ⟨xs, hxl, hxs⟩ := hns
      have hstr : strOfNums xs = ⟨l.toArray⟩ := by
        have : (xs.map fun n => UInt8.ofNat n.toNat) = l := by
          refine List.ext_getElem? fun i => ?_
          by_cases hi : i < l.length
          · rw [(hxs i hi).2, List.getElem?_map, List.getElem?_eq_getElem (by omega)]
            simp [List.getD, List.getElem?_eq_getElem (show i < xs.length by omega)]
          · rw [List.getElem?_eq_none (by simp; omega), List.getElem?_eq_none (by omega)]
        unfold strOfNums
        rw [this]
      refine ⟨.string ⟨l.toArray⟩, .c (.str rfl), fun w' hk => ?_⟩
      have hload : (loadCells ad l.length).run P w' = .ok (xs.map (Value.int .u8)).toArray w' := by
        refine run_loadCells _ (by simp [hxl]) (fun j hj => ?_)
        rw [cell_keep (hk rfl) (hxs j hj).1]
        simp [List.getD, List.getElem?_eq_getElem (show j < xs.length by omega)]
      rw [m1] at hload
      have hconv : (convert s d (.slice (some ad) es.length cap)).run P w' = .ok (.string ⟨l.toArray⟩) w' := by
        rw [run_convert_bytes_string w' s d e _ _ cap hu he8 hd, run_bytesToString w' _ _ cap xs hload, foldl_push_bytes, ← hstr]
        simp [strOfNums, ByteArray.empty, ByteArray.emptyWithCapacity]
        rfl
      simp only [execOp, he, Sem.run_bind, hconv, Result.andThen_ok, Sem.run_pure]
  · cases hs

end

theorem step1_ok {P : Program} {Γ : Glob} {E : Nat → Prop} {w : World} {μ κ : Nat → Nat} {h : Heap} {n : Nat} {env : Nat → Option AV} {a : Act} {ao : AOp} {v : AV}
    (H : HeapOK Γ E w μ κ h n) (HE : EnvOK (ctx E w μ κ h n) env a) {o : Oper} (hc : compOp P o = some ao) (hs : step1 Γ ⟨env, h, n⟩ ao = some v) : LookM ao.reads P (ctx E w μ κ h n) a o v := by
  obtain ⟨dst, op, type, pos, after, guard⟩ := o
  have hc0 := hc
  cases op with
  | move x => exact LookM.any (mov_ok H HE hc hs).1
  | assign x => exact LookM.any (mov_ok H HE hc hs).2
  | pick c x y => exact LookM.any (pick_ok H HE hc hs)
  | nilCheck x => exact LookM.any (nilc_ok H HE hc hs)
  | load t x =>
    have hl := load_ok (dst := dst) (type := type) (pos := pos) (after := after) (guard := guard) H HE hc hs
    simp only [compOp, bind, Option.bind_eq_some_iff, Option.some.injEq] at hc
    obtain ⟨_, _, _, _, _, _, rfl⟩ := hc
    exact hl
  | fieldAddr t x f => exact LookM.any (faddr_ok H HE hc hs)
  | field t x f => exact LookM.any (fld_ok H HE hc hs)
  | index t x i => exact LookM.any (idx_ok H HE hc hs)
  | extract t i => exact LookM.any (ext_ok H HE hc hs)
  | unOp op t x => exact LookM.any (un_ok H HE hc hs)
  | build t ps => exact LookM.any (build_ok H HE hc hs)
  | binOp op t x y yt => exact LookM.any (binop_ok H HE hc hs)
  | convert s d x =>
    simp only [compOp, bind, Option.bind_eq_some_iff] at hc
    obtain ⟨y, hy, hc⟩ := hc
    split at hc
    · rename_i k1 k2 h1 h2
      simp only [Option.some.injEq] at hc
      subst hc
      exact LookM.any (conv_ok H HE h2 ⟨_, h1⟩ hy hs)
    · rename_i h1 h2
      simp only [Option.some.injEq] at hc
      subst hc
      simp only [step1] at hs
      split at hs
      · rename_i l hg
        simp only [Option.some.injEq] at hs
        subst hs
        have he := relC_str (relV_c (arg_ok H HE hy hg))
        refine ⟨_, .c (relC_mkstr l), fun w' _ => ?_⟩
        simp only [execOp, he, convert, Sem.run_bind, run_underlying h1, run_underlying h2, Result.andThen_ok, Sem.run_pure]
      · cases hs
    · rename_i e h1 h2
      split at hc
      · simp only [Option.some.injEq] at hc
        subst hc
        simp only [step1] at hs
        cases hs
      · cases hc
    · rename_i e h1 h2
      split at hc
      · rename_i he
        simp only [Option.some.injEq] at hc
        subst hc
        exact ofBytes_ok H HE h1 h2 he hy hs
      · cases hc
    · cases hc
  | makeFunc f first captured =>
    simp only [compOp, bind, Option.bind_eq_some_iff, Option.some.injEq] at hc
    obtain ⟨fs, h1, cs, h2, rfl⟩ := hc
    exact LookM.any (mkfn_ok H HE h1 h2 hs)
  | slice t x lo hi mx =>
    simp only [compOp, bind, Option.bind_eq_some_iff] at hc
    obtain ⟨y, hy, l, hl, h', hh, m, hm, hc⟩ := hc
    split at hc
    · rename_i hu
      split at hc
      · rename_i hmx
        simp only [Option.some.injEq] at hc
        subst hc
        obtain rfl : mx = none := by cases mx with | none => rfl | some q => simp at hmx
        exact LookM.any (slStr_ok H HE hu hy hl hh hs)
      · cases hc
    · rename_i e hu
      simp only [Option.bind_eq_some_iff, Option.some.injEq] at hc
      obtain ⟨sz, hsz, rfl⟩ := hc
      cases mx with
      | none =>
        simp only [compOpt, Option.some.injEq] at hm
        subst hm
        exact LookM.any (slSl_ok H HE hu hsz hy hl hh hs)
      | some q =>
        simp only [compOpt, Option.map_eq_some_iff] at hm
        obtain ⟨m', hm', rfl⟩ := hm
        exact LookM.any (slSl3_ok H HE hu hsz hy hl hh hm' hs)
    · split at hc
      · simp only [Option.bind_eq_some_iff, Option.some.injEq] at hc
        obtain ⟨sz, hsz, rfl⟩ := hc
        simp only [step1] at hs
        cases hs
      · cases hc
    · cases hc
  | indexAddr t x i =>
    simp only [compOp, bind, Option.bind_eq_some_iff] at hc
    obtain ⟨j, hj, hc⟩ := hc
    split at hc
    · rename_i e hu
      simp only [Option.bind_eq_some_iff, Option.some.injEq] at hc
      obtain ⟨sz, hsz, y, hy, rfl⟩ := hc
      exact LookM.any (iaddr_ok H HE hu hsz hy hj hs)
    · rename_i m e hu
      split at hc
      · cases hc
      simp only [Option.bind_eq_some_iff, Option.some.injEq] at hc
      obtain ⟨sz, hsz, y, hy, rfl⟩ := hc
      exact LookM.any (iaddrA_ok H HE hu hsz hy hj hs)
    · cases hc
  | alloc e =>
    simp only [compOp] at hc
    split at hc
    · cases hc
      simp only [step1] at hs
      cases hs
    simp only [bind, Option.bind_eq_some_iff, Option.some.injEq] at hc
    obtain ⟨q, _, rfl⟩ := hc
    simp only [step1] at hs
    cases hs
  | box e x =>
    simp only [compOp, Option.map_eq_some_iff] at hc
    obtain ⟨q, _, rfl⟩ := hc
    simp only [step1] at hs
    cases hs
  | buildSlice t len ps =>
    simp only [compOp, bind, Option.bind_eq_some_iff] at hc
    obtain ⟨_, _, _, _, _, _, _, _, hc⟩ := hc
    split at hc
    · simp only [Option.some.injEq] at hc
      subst hc
      simp only [step1] at hs
      cases hs
    · cases hc
  | store t p x =>
    simp only [compOp, bind, Option.bind_eq_some_iff, Option.some.injEq] at hc
    obtain ⟨_, _, _, _, _, _, rfl⟩ := hc
    simp only [step1] at hs
    cases hs
  | makeSlice t l c =>
    simp only [compOp, bind, Option.bind_eq_some_iff] at hc
    obtain ⟨_, _, _, _, _, _, hc⟩ := hc
    split at hc
    · simp only [Option.bind_eq_some_iff, Option.some.injEq] at hc
      obtain ⟨_, _, _, _, rfl⟩ := hc
      simp only [step1] at hs
      cases hs
    · cases hc
  | range t x =>
    simp only [compOp] at hc
    split at hc
    · obtain ⟨_, _, rfl⟩ := Option.map_eq_some_iff.1 hc
      simp only [step1] at hs
      cases hs
    · cases hc
  | next it b =>
    cases b with
    | false => simp [compOp] at hc
    | true =>
      simp only [compOp] at hc
      obtain ⟨_, _, rfl⟩ := Option.map_eq_some_iff.1 hc
      simp only [step1] at hs
      cases hs
  | call c =>
    obtain ⟨callee, args, argTypes⟩ := c
    cases callee with
    | invoke r m => simp [compOp] at hc
    | value f =>
      have : step1 Γ ⟨env, h, n⟩ ao = none := by
        cases f <;> simp only [compOp, bind, Option.bind_eq_some_iff, Option.some.injEq] at hc
        case func =>
          split at hc
          · simp only [Option.bind_eq_some_iff, Option.some.injEq] at hc
            obtain ⟨_, _, rfl⟩ := hc
            rfl
          · cases hc
        all_goals
          obtain ⟨_, _, _, _, rfl⟩ := hc
          rfl
      rw [this] at hs
      cases hs
    | builtin b =>
      cases b with
      | len =>
        simp only [compOp] at hc
        split at hc
        · rename_i x t r ha ht
          split at hc
          · rename_i hu
            obtain ⟨y, hy, rfl⟩ := Option.map_eq_some_iff.1 hc
            exact LookM.any (lenS_ok H HE ha ht hu hy hs)
          · rename_i e hu
            obtain ⟨y, hy, rfl⟩ := Option.map_eq_some_iff.1 hc
            exact LookM.any (len_ok H HE ha ht hu hy hs)
          · rename_i m e hu
            simp only [Option.some.injEq] at hc
            subst hc
            exact LookM.any (lenA_ok ha ht hu hs)
          · cases hc
        · cases hc
      | min =>
        simp only [compOp] at hc
        obtain ⟨ys, hy, rfl⟩ := Option.map_eq_some_iff.1 hc
        exact LookM.any (mm_ok (isMax := false) H HE hy hs)
      | max =>
        simp only [compOp] at hc
        obtain ⟨ys, hy, rfl⟩ := Option.map_eq_some_iff.1 hc
        exact LookM.any (mm_ok (isMax := true) H HE hy hs)
      | append =>
        simp only [compOp] at hc
        split at hc
        · simp only [bind, Option.bind_eq_some_iff] at hc
          obtain ⟨_, _, _, _, _, _, _, _, hc⟩ := hc
          split at hc
          · cases hc
          · split at hc
            · simp only [Option.some.injEq] at hc
              subst hc
              simp only [step1] at hs
              cases hs
            · split at hc
              · simp only [Option.some.injEq] at hc
                subst hc
                simp only [step1] at hs
                cases hs
              · cases hc
            · cases hc
        · cases hc
      | copy =>
        simp only [compOp] at hc
        split at hc
        · simp only [bind, Option.bind_eq_some_iff, Option.some.injEq] at hc
          obtain ⟨_, _, _, _, _, _, _, _, _, _, rfl⟩ := hc
          simp only [step1] at hs
          cases hs
        · cases hc
      | _ => simp [compOp] at hc
  | _ => simp [compOp] at hc

end Go.Proofs.YtdmmjgjmfpalhaaDoorBv
