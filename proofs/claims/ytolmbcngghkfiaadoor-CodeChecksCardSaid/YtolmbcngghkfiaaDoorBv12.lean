/- The calculus: append, copy, the runes of a text; and all operations that make or change memory, together. It proves nothing of any program. -/
import Derived.Test.YtolmbcngghkfiaaDoorBv11
import Derived.Maps.RangeRun
namespace Go.Proofs.YtolmbcngghkfiaaDoorBv
open Go
set_option linter.unusedVariables false
set_option linter.unusedSimpArgs false

section
variable {P : Program} {Γ : Glob} {E : Nat → Prop} {w : World} {μ κ : Nat → Nat} {h : Heap} {n : Nat} {env : Nat → Option AV} {a : Act}
  {dst : Option Tmp} {type : TypeId} {pos : String} {after : Array Edge} {guard : Option (Nat × Bool)} {ao : AOp} {v : Option AV} {h' : Heap} {n' : Nat}
variable (H : HeapOK Γ E w μ κ h n) (HE : EnvOK (ctx E w μ κ h n) env a)
include H HE

omit H HE in
theorem elemT_under {t e : TypeId} (he : elemT P t = some e) : P.underlying t = some (.slice e) := by
  unfold elemT at he
  split at he
  · simp only [Option.some.injEq] at he; subst he; assumption
  · cases he

omit H HE in
theorem call_builtin {b : Go.Builtin} {x y : Operand} {t u : TypeId} {w w' : World} {cv : Value} (hb : (builtin b #[t, u] type (#[x, y].map fun | .const _ => true | _ => false) #[a.eval x, a.eval y]).run P w = .ok (.value cv) w') :
    (execOp a.eval ⟨dst, .call { callee := .builtin b, args := #[x, y], argTypes := #[t, u] }, type, pos, after, guard⟩).run P w = .ok (.value cv) w' := by
  simp only [execOp, resolve, invoke, Sem.run_bind, Sem.run_pure, Result.andThen_ok, List.map_toArray, List.map_cons, List.map_nil]
  simp only [List.map_toArray, List.map_cons, List.map_nil] at hb
  exact hb

theorem app_did {t e u : TypeId} {ti : TypeInfo} {x y : Operand} {x' y' : Arg} (he : elemT P t = some e) (hi : P.info? e = some ti) (hx : compArg P t x = some x') (hy : compArg P u y = some y')
    (hcond : ¬ (ti.size = 0 ∨ ti.bytes = 0 ∨ ti.zero.map (·.cells.size) ≠ some ti.size)) {c : Cel} {news : List (List Cel)} {vs : List Value} (hg : x'.get Γ env = some (.c c))
    (hsrc : Src P ti.size u (a.eval y) news.length vs w)
    (hn : ∀ (i : Nat) (e : List Cel), news[i]? = some e → e.length = ti.size ∧ ∀ (j : Nat) (x : Cel), e[j]? = some x → RelC (ctx E w μ κ h n) x (vs.getD (i * ti.size + j) undef))
    (hs : appendC h n ti.size ti.bytes c news = some (v, h', n')) :
    Did P Γ E w μ κ h n a ⟨dst, .call { callee := .builtin .append, args := #[x, y], argTypes := #[t, u] }, type, pos, after, guard⟩ v h' n' := by
  have hu := elemT_under he
  simp only [not_or, Decidable.not_not, ne_eq] at hcond
  obtain ⟨h1, h2, h3⟩ := hcond
  obtain ⟨z, hz, hzs⟩ := Option.map_eq_some_iff.1 h3
  obtain ⟨w', μ', κ', cv, r1, r2, r3, r4⟩ := append_core (ty := type) H HE hu hi hz hzs hx hg hsrc hn hs h2
  exact ⟨w', μ', κ', .value cv, cv, call_builtin (by simp [builtin, r1]), .inl rfl, r2, r3, r4⟩

theorem app_ok {t e u e' : TypeId} {ti : TypeInfo} {x y : Operand} {x' y' : Arg} (he : elemT P t = some e) (hi : P.info? e = some ti) (hx : compArg P t x = some x') (hy : compArg P u y = some y')
    (hcond : ¬ (ti.size = 0 ∨ ti.bytes = 0 ∨ ti.zero.map (·.cells.size) ≠ some ti.size)) (hu' : P.underlying u = some (.slice e')) (hs : step2 Γ ⟨env, h, n⟩ (.app ti.size ti.bytes x' y') = some (v, h', n')) :
    Did P Γ E w μ κ h n a ⟨dst, .call { callee := .builtin .append, args := #[x, y], argTypes := #[t, u] }, type, pos, after, guard⟩ v h' n' := by
  simp only [step2] at hs
  split at hs
  · rename_i c d hg1 hg2
    split at hs
    · rename_i news hnews
      obtain ⟨vs, hsrc, hn⟩ := src_of hu' (slContent_ok H hnews (relV_c (arg_ok H HE hy hg2)))
      exact app_did H HE he hi hx hy hcond hg1 hsrc hn hs
    · cases hs
  · cases hs

theorem appS_ok {t e u : TypeId} {ti : TypeInfo} {x y : Operand} {x' y' : Arg} (he : elemT P t = some e) (hi : P.info? e = some ti) (hx : compArg P t x = some x') (hy : compArg P u y = some y')
    (hcond : ¬ (ti.size = 0 ∨ ti.bytes = 0 ∨ ti.zero.map (·.cells.size) ≠ some ti.size)) (hu' : P.underlying u = some .string) (h1 : ti.size = 1) (h2 : ti.bytes = 1) (hs : step2 Γ ⟨env, h, n⟩ (.appS x' y') = some (v, h', n')) :
    Did P Γ E w μ κ h n a ⟨dst, .call { callee := .builtin .append, args := #[x, y], argTypes := #[t, u] }, type, pos, after, guard⟩ v h' n' := by
  simp only [step2] at hs
  split at hs
  · rename_i c l hg1 hg2
    have hev := relC_str (relV_c (arg_ok H HE hy hg2))
    have hsrc : Src P ti.size u (a.eval y) (l.map byteCel).length (l.map fun b => Value.int .u8 b.toNat) w := by
      rw [hev, h1, List.length_map]
      exact Src.ofString w hu' ⟨l.toArray⟩
    refine app_did H HE he hi hx hy hcond hg1 hsrc (fun i e he => ?_) (by rw [h1, h2]; exact hs)
    obtain ⟨r1, r2⟩ := byteCels (K := ctx E w μ κ h n) (l := l) (C := (l.map fun b => Value.int .u8 b.toNat).toArray) (fun i hi => by
      simp [List.getD, List.getElem?_eq_getElem hi]) i e he
    rw [h1]
    refine ⟨r1, fun j x hj => ?_⟩
    obtain ⟨v, hv, hr⟩ := r2 j x hj
    have : (l.map fun b => Value.int .u8 b.toNat).getD (i * 1 + j) undef = v := by
      simp only [List.getElem?_toArray] at hv
      simp only [List.getD, hv, Option.getD_some]
    rw [this]
    exact hr
  · cases hs

omit H HE in
theorem run_copy_gen {dT sT ty elem : TypeId} {ti : TypeInfo} {ad : Addr} {A : Option Addr} {dLen dCap sLen sCap : Nat} {cs : List Value} {w' : World} (hu : P.underlying dT = some (.slice elem)) (hi : P.info? elem = some ti)
    (hf : (Builtin.firstCells ti.size (Nat.min sLen dLen) (.slice A sLen sCap)).run P w = .ok cs.toArray w) (hst : (storeCells ad cs).run P w = .ok () w') :
    (Builtin.copy_ #[dT, sT] ty #[.slice (some ad) dLen dCap, .slice A sLen sCap]).run P w = .ok (.int .i64 (Nat.min sLen dLen)) w' := by
  simp [Builtin.copy_, run_underlying hu, Builtin.lenOf, sizeOf, typeInfo, hi, hf, hst, goInt]

theorem cpy_ok {t e u e' : TypeId} {sz : Nat} {x y : Operand} {x' y' : Arg} (he : elemT P t = some e) (hsz : sizeT P e = some sz) (hu' : elemT P u = some e') (hx : compArg P t x = some x') (hy : compArg P u y = some y')
    (hs : step2 Γ ⟨env, h, n⟩ (.cpy sz x' y') = some (v, h', n')) :
    Did P Γ E w μ κ h n a ⟨dst, .call { callee := .builtin .copy, args := #[x, y], argTypes := #[t, u] }, type, pos, after, guard⟩ v h' n' := by
  have hu := elemT_under he
  obtain ⟨ti, hti, rfl⟩ : ∃ ti, P.info? e = some ti ∧ ti.size = sz := by
    simpa [sizeT, Option.map_eq_some_iff] using hsz
  simp only [step2] at hs
  split at hs
  · rename_i b s off len m d hg1 hg2
    split at hs
    · rename_i s' es ys hb hys
      split at hs
      · rename_i hcond
        obtain ⟨rfl, rfl, hle⟩ := hcond
        simp only [Option.some.injEq, Prod.mk.injEq] at hs
        obtain ⟨rfl, rfl, rfl⟩ := hs
        obtain ⟨A, cap, g, hey, hyc, hyz, hycell⟩ := slContent_ok H hys (relV_c (arg_ok H HE hy hg2))
        obtain ⟨o, dcap, hbn, hex, hl, hm, ho, hk⟩ := relC_own (relV_c (arg_ok H HE hx hg1))
        obtain ⟨C, tt, fr, hC, hfr, hcl, hszz, hes⟩ := H.blk b _ hb
        have hCw : w.heap[μ b]? = some (.cells C tt fr) := hC
        have hk' : off + dcap ≤ κ b := hk
        have hcl' : es.length ≤ κ b := hcl
        have hszz' : κ b * ti.size ≤ C.size := hszz
        have hylen : (ys.take len).length = Nat.min ys.length len := by rw [List.length_take]; exact Nat.min_comm _ _
        have hmin : Nat.min ys.length len ≤ len := Nat.min_le_right _ _
        have hsl' : SlOK (ctx E w μ κ h n) ti.size (ys.take len) (.slice A (Nat.min ys.length len) cap) := by
          refine ⟨A, cap, g, by rw [hylen], by rw [hylen]; exact Nat.le_trans (Nat.min_le_left _ _) hyc, hyz, fun i e hi => ?_⟩
          have hil : i < len := by have := (List.getElem?_eq_some_iff.1 hi).1; simp at this; omega
          rw [List.getElem?_take_of_lt hil] at hi
          exact hycell i e hi
        obtain ⟨vs, hsrc, hvs⟩ := src_of (P := P) (tx := u) (elemT_under hu') hsl'
        have hfirst : (Builtin.firstCells ti.size (Nat.min ys.length len) (.slice A ys.length cap)).run P w = .ok vs.toArray w := by
          have := hsrc.cells
          rw [hylen] at this
          cases A <;> exact this
        obtain ⟨H1, F1⟩ := write_row H hb off (ys.take len) vs (by omega) (by rw [hylen]; omega) hsrc.newsLen hvs
        have hst : (storeCells ⟨μ b, o, none⟩ vs).run P w = .ok () (w.setCells (μ b) (off * ti.size) vs) := by
          rcases Nat.eq_zero_or_pos dcap with h0 | h0
          · have hv0 : vs = [] := by
              have := hsrc.newsLen
              rw [hylen, show Nat.min ys.length len = 0 by omega, Nat.zero_mul] at this
              exact List.eq_nil_of_length_eq_zero this
            rw [hv0]
            rfl
          · obtain rfl : o = off * ti.size := by rcases ho with h | h <;> omega
            have hbd : off * ti.size + vs.length ≤ C.size := by
              rw [hsrc.newsLen, hylen, ← Nat.add_mul]
              exact Nat.le_trans (Nat.mul_le_mul_right _ (by omega)) hszz'
            have := run_storeCells_cells (P := P) (μ b) (off * ti.size) vs 0 w (fun j hj => by
              rw [Nat.add_zero, block_cell hCw, get_of_getD (by omega)]; rfl) (fun j hj => by rw [Nat.add_zero]; exact block_free hCw hfr.1 _ (by omega)) hsrc.one
            rw [Nat.add_zero] at this
            exact this
        have run := run_copy_gen (dT := t) (sT := u) (ty := type) (dLen := len) (dCap := dcap) hu hti hfirst hst
        rw [hylen] at H1 F1
        refine ⟨_, μ, κ, .value _, _, call_builtin (by rw [hex, hey]; simp only [builtin, Sem.run_bind]; rw [show (ctx E w μ κ h n).μ b = μ b from rfl, run]; rfl), .inl rfl, H1, F1, fun x hx => by
          cases hx
          rw [show (min (ys.length : Int) (len : Int)) = ((Nat.min ys.length len : Nat) : Int) by show _ = ((min ys.length len : Nat) : Int); omega]
          exact .c (.val rfl)⟩
      · cases hs
    · cases hs
  · cases hs

omit H HE in
theorem call_builtin1 {b : Go.Builtin} {x : Operand} {t : TypeId} {w w' : World} {cv : Value} (hb : (builtin b #[t] type (#[x].map fun | .const _ => true | _ => false) #[a.eval x]).run P w = .ok (.value cv) w') :
    (execOp a.eval ⟨dst, .call { callee := .builtin b, args := #[x], argTypes := #[t] }, type, pos, after, guard⟩).run P w = .ok (.value cv) w' := by
  simp only [execOp, resolve, invoke, Sem.run_bind, Sem.run_pure, Result.andThen_ok, List.map_toArray, List.map_cons, List.map_nil]
  simp only [List.map_toArray, List.map_cons, List.map_nil] at hb
  exact hb
omit H HE in
theorem relC_nilv {K : Ctx} {s : Nat} {xs : List (List Cel)} {v : Value} (h : RelC K (.ro true s xs) v) : ∃ l c, v = .slice none l c := by
  cases h with
  | ro f hn => obtain rfl := hn rfl; exact ⟨_, _, rfl⟩
omit H HE in
theorem zeroC_one {z : Array Value} (hz : ∀ v ∈ z, v.oneCell' = true) (n : Nat) : ∀ v ∈ (Builtin.zeroCells z n).toList, v.oneCell' = true := by
  intro v hv
  unfold Builtin.zeroCells at hv
  rw [Array.toList_map, List.mem_map] at hv
  obtain ⟨i, hi, rfl⟩ := hv
  have hi : i < n * z.size := by simpa using hi
  have hsz : 0 < z.size := by
    rcases Nat.eq_zero_or_pos z.size with h | h
    · rw [h, Nat.mul_zero] at hi; omega
    · exact h
  have : i % z.size < z.size := Nat.mod_lt _ hsz
  rw [getElem!_pos z _ this]
  exact hz _ (Array.getElem_mem this)
theorem clr_ok {t e : TypeId} {ti : TypeInfo} {z : List Cel} {x : Operand} {x' : Arg} (he : elemT P t = some e) (hti : P.info? e = some ti) (hz : zeroCels P e = some z) (hcond : z.length = ti.size ∧ ti.size ≠ 0) (hx : compArg P t x = some x')
    (hs : step2 Γ ⟨env, h, n⟩ (.clr ti.size z x') = some (v, h', n')) :
    Did P Γ E w μ κ h n a ⟨dst, .call { callee := .builtin .clear, args := #[x], argTypes := #[t] }, type, pos, after, guard⟩ v h' n' := by
  have hu := elemT_under he
  obtain ⟨ti', zv, hti', hzv, hlen, hr⟩ := zeroCels_ok (K := ctx E w μ κ h n) hz
  rw [hti] at hti'
  cases hti'
  have hzr : ∀ w : World, (zeroValue e).run P w = .ok zv w := fun w => by simp only [zeroValue, Sem.run_bind, run_typeInfo' hti, Result.andThen_ok, hzv, Sem.run_pure]
  simp only [step2] at hs
  split at hs
  · rename_i b s off len m hg1
    split at hs
    · rename_i s' es hb
      split at hs
      · rename_i hcnd
        obtain ⟨rfl, rfl, hle⟩ := hcnd
        simp only [Option.some.injEq, Prod.mk.injEq] at hs
        obtain ⟨rfl, rfl, rfl⟩ := hs
        obtain ⟨o, dcap, hbn, hex, hl, hm, ho, hk⟩ := relC_own (relV_c (arg_ok H HE hx hg1))
        obtain ⟨C, tt, fr, hC, hfr, hcl, hszz, hes⟩ := H.blk b _ hb
        have hCw : w.heap[μ b]? = some (.cells C tt fr) := hC
        have hk' : off + dcap ≤ κ b := hk
        have hszz' : κ b * ti.size ≤ C.size := hszz
        have hzs : zv.cells.size = ti.size := by rw [← hlen]; exact hcond.1
        have hvl : (Builtin.zeroCells zv.cells len).toList.length = len * ti.size := by rw [Array.length_toList]; simp [Builtin.zeroCells, hzs]
        have hf0 := flat_zero (K := ctx E w μ κ h n) len hlen hr
        obtain ⟨H1, F1⟩ := write_row H hb off (List.replicate len z) (Builtin.zeroCells zv.cells len).toList (by omega) (by rw [List.length_replicate]; omega) (by rw [hvl, List.length_replicate]) (fun i q hq => by
          obtain ⟨r1, r2⟩ := hf0.2 i q hq
          refine ⟨by rw [r1]; exact hcond.1, fun j y hy => ?_⟩
          have := r2 j y hy
          have e2 : (Builtin.zeroCells zv.cells len).toList.getD (i * ti.size + j) undef = ((Array.range (len * z.length)).map (zv.cells[· % zv.cells.size]!)).getD (i * z.length + j) undef := by
            rw [hcond.1, ← hzs]
            simp only [List.getD, Array.getElem?_toList, Builtin.zeroCells]
            rw [Array.getD_eq_getD_getElem?]
          rw [e2]; exact this)
        rw [List.length_replicate] at H1 F1
        have hst : (builtin .clear #[t] type (#[x].map fun | .const _ => true | _ => false) #[a.eval x]).run P w = .ok (.value (.tuple #[])) (w.setCells (μ b) (off * ti.size) (Builtin.zeroCells zv.cells len).toList) := by
          rw [hex, show (ctx E w μ κ h n).μ b = μ b from rfl]
          rcases Nat.eq_zero_or_pos len with h0 | h0
          · subst h0
            have hv0 : (Builtin.zeroCells zv.cells 0).toList = [] := List.eq_nil_of_length_eq_zero (by rw [hvl]; omega)
            rw [hv0]
            simp only [builtin, Sem.run_bind, Builtin.clear_]
            simp [run_underlying hu, World.setCells]
          · obtain rfl : o = off * ti.size := by rcases ho with h | h <;> omega
            have hbd : off * ti.size + len * ti.size ≤ C.size := by
              rw [← Nat.add_mul]
              exact Nat.le_trans (Nat.mul_le_mul_right _ (by omega)) hszz'
            have hone : ∀ u ∈ zv.cells, u.oneCell' = true := fun u hu => by
              obtain ⟨j, hj, rfl⟩ := Array.getElem_of_mem hu
              have hj' : j < z.length := by rw [hlen]; exact hj
              have := hr j z[j] (List.getElem?_eq_getElem hj')
              rw [Array.getD_eq_getD_getElem?, Array.getElem?_eq_getElem hj] at this
              exact one_oneCell this.one
            have hrun := run_storeCells_cells (P := P) (μ b) (off * ti.size) (Builtin.zeroCells zv.cells len).toList 0 w (fun j hj => by
              rw [Nat.add_zero, block_cell hCw, get_of_getD (by rw [hvl] at hj; omega)]; rfl) (fun j hj => by rw [Nat.add_zero]; exact block_free hCw hfr.1 _ (by rw [hvl] at hj; omega)) (zeroC_one hone len)
            rw [Nat.add_zero] at hrun
            obtain ⟨k, rfl⟩ : ∃ k, len = k + 1 := ⟨len - 1, by omega⟩
            simp only [builtin, Sem.run_bind, Builtin.clear_]
            simp [run_underlying hu, hzr, hrun]
        refine ⟨_, μ, κ, .value _, _, call_builtin1 hst, .inl rfl, H1, F1, fun x hx => by cases hx⟩
      · cases hs
    · cases hs
  · rename_i s xs hg1
    simp only [Option.some.injEq, Prod.mk.injEq] at hs
    obtain ⟨rfl, rfl, rfl⟩ := hs
    obtain ⟨_, _, hev⟩ := relC_nilv (relV_c (arg_ok H HE hx hg1))
    refine ⟨w, μ, κ, .value (.tuple #[]), _, call_builtin1 ?_, .inl rfl, H, .refl _ _, fun x hx => by cases hx⟩
    rw [hev]
    simp only [builtin, Sem.run_bind, Builtin.clear_]
    simp [run_underlying hu]
  · cases hs

theorem rangeS_ok {t : TypeId} {x : Operand} {x' : Arg} (hu : P.underlying t = some .string) (hx : compArg P t x = some x') (hs : step2 Γ ⟨env, h, n⟩ (.rangeS x') = some (v, h', n')) :
    Did P Γ E w μ κ h n a ⟨dst, .range t x, type, pos, after, guard⟩ v h' n' := by
  simp only [step2] at hs
  split at hs
  · rename_i l hg
    simp only [Option.some.injEq, Prod.mk.injEq] at hs
    obtain ⟨rfl, rfl, rfl⟩ := hs
    have he := relC_str (relV_c (arg_ok H HE hx hg))
    have F1 := alloc_le H (.stringIter ⟨l.toArray⟩ 0) (.iter ⟨l.toArray⟩ 0) 0
    have H1 := H.alloc (.stringIter ⟨l.toArray⟩ 0) (.iter ⟨l.toArray⟩ 0) 0 (by
      show (w.alloc (.stringIter ⟨l.toArray⟩ 0)).heap[upd μ n w.heap.size n]? = _
      rw [upd_same, alloc_heap, if_pos rfl])
    refine ⟨_, _, _, .value (.pointer (some ⟨w.heap.size, 0, none⟩)), _, ?_, .inl rfl, H1, F1, fun x hx => ?_⟩
    · simp only [execOp, Instr.range, he, Sem.run_bind, run_underlying hu, Result.andThen_ok, Sem.run_pure, run_newObj]
      rfl
    · cases hx
      have := RelC.ref (K := ctx E (w.alloc (.stringIter ⟨l.toArray⟩ 0)) (upd μ n w.heap.size) (upd κ n 0) (upd h n (some (.iter ⟨l.toArray⟩ 0))) (n + 1)) (b := n) (sz := 0) (i := 0) (j := 0) (Nat.lt_succ_self n)
      simp only [Nat.zero_mul, Nat.zero_add] at this
      rw [show (ctx E (w.alloc (.stringIter ⟨l.toArray⟩ 0)) (upd μ n w.heap.size) (upd κ n 0) (upd h n (some (.iter ⟨l.toArray⟩ 0))) (n + 1)).μ n = w.heap.size from upd_same _ _ _] at this
      exact .c this
  · cases hs

theorem rangeM_ok {t : TypeId} {kt et : TypeId} {x : Operand} {x' : Arg} (hu : P.underlying t = some (.map kt et)) (hx : compArg P t x = some x') (hs : step2 Γ ⟨env, h, n⟩ (.rangeM x') = some (v, h', n')) :
    Did P Γ E w μ κ h n a ⟨dst, .range t x, type, pos, after, guard⟩ v h' n' := by
  simp only [step2] at hs
  split at hs
  · rename_i b hg
    split at hs
    · rename_i m es hb
      simp only [Option.some.injEq, Prod.mk.injEq] at hs
      obtain ⟨rfl, rfl, rfl⟩ := hs
      have hr := relV_c (arg_ok H HE hx hg)
      obtain ⟨A, c, hA, hsz, hes⟩ := H.blk b _ hb
      have hAw : w.heap[μ b]? = some (.map A c) := hA
      have ex : a.eval x = .map (some (μ b)) := by
        generalize a.eval x = q at hr
        cases hr with
        | mp h => rfl
      have hlt : μ b < w.heap.size := (Array.getElem?_eq_some_iff.1 hAw).1
      have hbn := H.bound b _ hb
      obtain ⟨H0, F0⟩ := H.less (h' := upd h b none) (fun b' y hb' => by
        by_cases e : b' = b
        · subst e; rw [upd_same] at hb'; cases hb'
        · rw [upd_ne _ _ e] at hb'; exact hb')
      have hS : stab E w μ (upd h b none) (μ b) := by
        refine ⟨hlt, H.res b _ hb, fun b' y hb' e' => ?_⟩
        by_cases e : b' = b
        · subst e; rw [upd_same] at hb'; cases hb'
        · rw [upd_ne _ _ e] at hb'; exact e (H.inj b' b y _ hb' hb e')
      have F1 := alloc_le H0 (.mapIter (some (μ b)) c #[] c) (.mit m none es) 0
      have hS1 := F1.le.S _ hS
      have hA1 := (F1.le.heap _ hS).trans hAw
      have H1 := H0.alloc (.mapIter (some (μ b)) c #[] c) (.mit m none es) 0 (by
        refine ⟨μ b, A, c, #[], ?_, ⟨hS1, hA1⟩, ⟨hsz.2, by rw [left_all, Array.length_toList]; exact hsz.1⟩, fun k v hk => (by cases hk), fun i k v hi => ?_⟩
        · show (w.alloc (.mapIter (some (μ b)) c #[] c)).heap[upd μ n w.heap.size n]? = _
          rw [upd_same, alloc_heap, if_pos rfl]
        · obtain ⟨q0, e, q1, q2, q3⟩ := hes i k v hi
          refine ⟨q0, e, by rw [left_all, Array.getElem?_toList]; exact q1, (q2.mono F0.le.bare).mono F1.le.bare, (q3.mono F0.le.bare).mono F1.le.bare⟩)
      refine ⟨_, _, _, .value (.pointer (some ⟨w.heap.size, 0, none⟩)), _, ?_, .inl rfl, H1, F0.trans F1, fun x hx => ?_⟩
      · simp only [execOp, Instr.range, ex, Sem.run_bind, run_underlying hu, Result.andThen_ok, Sem.run_pure, MapKept.run_getObj_map hAw, run_newObj]
        rfl
      · cases hx
        have := RelC.ref (K := ctx E (w.alloc (.mapIter (some (μ b)) c #[] c)) (upd μ n w.heap.size) (upd κ n 0) (upd (upd h b none) n (some (.mit m none es))) (n + 1)) (b := n) (sz := 0) (i := 0) (j := 0) (Nat.lt_succ_self n)
        simp only [Nat.zero_mul, Nat.zero_add] at this
        rw [show (ctx E (w.alloc (.mapIter (some (μ b)) c #[] c)) (upd μ n w.heap.size) (upd κ n 0) (upd (upd h b none) n (some (.mit m none es))) (n + 1)).μ n = w.heap.size from upd_same _ _ _] at this
        exact .c this
    · cases hs
  · cases hs

theorem entryM_ok {it : Operand} {x' : Arg} (hx : compArg P 0 it = some x') (hs : step2 Γ ⟨env, h, n⟩ (.entryM x') = some (v, h', n')) :
    Did P Γ E w μ κ h n a ⟨dst, .entry it, type, pos, after, guard⟩ v h' n' := by
  simp only [step2] at hs
  split at hs
  · rename_i b hg
    obtain ⟨hbn, he⟩ := relC_ref (relV_c (arg_ok H HE hx hg))
    split at hs
    · rename_i m p es hb
      simp only [Option.some.injEq, Prod.mk.injEq] at hs
      obtain ⟨rfl, rfl, rfl⟩ := hs
      obtain ⟨r, A, c, seen, hB, ⟨hS, hA⟩, ⟨hbnn, _⟩, hla, _⟩ := H.blk b _ hb
      obtain ⟨e, s0, g0, rfl, g2, g3⟩ := hla p.1 p.2 rfl
      have he' : a.eval it = .pointer (some ⟨μ b, 0, none⟩) := by rw [he]; rfl
      refine ⟨w, μ, κ, .value (.tuple #[e.key, e.val]), _, ?_, .inl rfl, H, .refl _ _, fun x hx => ?_⟩
      · have hrun := run_entry_at (P := P) w (μ b) r c s0 A c e hB hA g0 hbnn.2
        simp only [execOp, he', Sem.run_bind, hrun, Result.andThen_ok, Sem.run_pure]
      · cases hx
        refine .tup rfl (fun i x hi => ?_)
        match i with
        | 0 => simp at hi; subst hi; exact .c (g2.mono (Ctx.bare_le _))
        | 1 => simp at hi; subst hi; exact g3.mono (Ctx.bare_le _)
        | i + 2 => simp at hi
    · cases hs
  · cases hs

theorem nextS_ok {it : Operand} {x' : Arg} (hx : compArg P 0 it = some x') (hs : step2 Γ ⟨env, h, n⟩ (.nextS x') = some (v, h', n')) :
    Did P Γ E w μ κ h n a ⟨dst, .next it true, type, pos, after, guard⟩ v h' n' := by
  simp only [step2] at hs
  split at hs
  · rename_i b hg
    obtain ⟨hbn, he⟩ := relC_ref (relV_c (arg_ok H HE hx hg))
    split at hs
    · rename_i s p hb
      have hB : w.heap[μ b]? = some (.stringIter s p) := H.blk b _ hb
      have he' : a.eval it = .pointer (some ⟨μ b, 0, none⟩) := by rw [he]; rfl
      split at hs
      · rename_i hp
        simp only [Option.some.injEq, Prod.mk.injEq] at hs
        obtain ⟨rfl, rfl, rfl⟩ := hs
        have hlt : μ b < w.heap.size := (H.blk b _ hb).lt
        obtain ⟨H1, F1⟩ := H.write (w' := { w with heap := w.heap.setIfInBounds (μ b) (.stringIter s (p + (Utf8.decode s p).2)) }) (x' := .iter s (p + (Utf8.decode s p).2)) hb (by simp) rfl rfl rfl
          (fun k hk => by simp [Array.getElem?_setIfInBounds, Ne.symm hk]) (by
            show (w.heap.setIfInBounds (μ b) _)[μ b]? = _
            rw [Array.getElem?_setIfInBounds_self_of_lt hlt])
        refine ⟨_, μ, κ, .value (.tuple #[.bool true, goInt p, .int .i32 (Utf8.decode s p).1]), _, ?_, .inl rfl, H1, F1, fun x hx => ?_⟩
        · have hget : (getObj (μ b)).run P w = .ok (.stringIter s p) w := by simp [getObj, Sem.run, hB]
          have hset : (setObj (μ b) (.stringIter s (p + (Utf8.decode s p).2))).run P w = .ok () { w with heap := w.heap.setIfInBounds (μ b) (.stringIter s (p + (Utf8.decode s p).2)) } := by
            simp [setObj, Sem.run, hB]
          simp only [execOp, Instr.next, he', Sem.run_bind, hget, Result.andThen_ok, if_pos hp, hset, Sem.run_pure]
        · cases hx
          refine .tup rfl (fun i x hi => ?_)
          match i with
          | 0 => simp at hi; subst hi; exact .c (.val rfl)
          | 1 => simp at hi; subst hi; exact .c (.val rfl)
          | 2 => simp at hi; subst hi; exact .c (.val rfl)
          | i + 3 => simp at hi
      · rename_i hp
        simp only [Option.some.injEq, Prod.mk.injEq] at hs
        obtain ⟨rfl, rfl, rfl⟩ := hs
        refine ⟨w, μ, κ, .value (.tuple #[.bool false]), _, ?_, .inl rfl, H, .refl _ _, fun x hx => ?_⟩
        · have hget : (getObj (μ b)).run P w = .ok (.stringIter s p) w := by simp [getObj, Sem.run, hB]
          simp only [execOp, Instr.next, he', Sem.run_bind, hget, Result.andThen_ok, if_neg hp, Sem.run_pure]
        · cases hx
          refine .tup rfl (fun i x hi => ?_)
          match i with
          | 0 => simp at hi; subst hi; exact .c (.val rfl)
          | i + 1 => simp at hi
    · cases hs
  · cases hs

omit H HE in
theorem freeV_bare {K : Ctx} {x : AV} {v : Value} (h : RelV K x v) (hf : x.freeV = true) : RelV K.bare x v := by
  cases h with
  | c h => exact .c (free_bare h hf)
  | agg hl r => exact .agg hl fun i x hi => free_bare (r i x hi) (List.all_eq_true.1 hf x (List.mem_of_getElem? hi))
  | tup => cases hf

omit HE in
theorem mkmap_ok {t : TypeId} (hc : compOp P ⟨dst, .makeMap t none, type, pos, after, guard⟩ = some ao) (hs : step2 Γ ⟨env, h, n⟩ ao = some (v, h', n')) :
    Did P Γ E w μ κ h n a ⟨dst, .makeMap t none, type, pos, after, guard⟩ v h' n' := by
  simp only [compOp] at hc
  obtain ⟨⟨m, kt, et⟩, hq, rfl⟩ := Option.map_eq_some_iff.1 hc
  simp only [step2, Option.some.injEq, Prod.mk.injEq] at hs
  obtain ⟨rfl, rfl, rfl⟩ := hs
  have F1 := alloc_le H (.map #[] 0) (.mapb m []) 0
  have H1 := H.alloc (.map #[] 0) (.mapb m []) 0 (by
    refine ⟨#[], 0, ?_, ⟨rfl, by simp [Bn]⟩, fun i k v hi => by simp at hi⟩
    show (w.alloc (.map #[] 0)).heap[upd μ n w.heap.size n]? = _
    rw [upd_same, alloc_heap, if_pos rfl])
  refine ⟨_, _, _, .value (.map (some w.heap.size)), _, ?_, .inl rfl, H1, F1, fun x hx => ?_⟩
  · simp only [execOp, Instr.makeMap, Option.map_none, Sem.run_bind, Sem.run_pure, Result.andThen_ok, run_newObj]
    rfl
  · cases hx
    have := RelC.mp (K := ctx E (w.alloc (.map #[] 0)) (upd μ n w.heap.size) (upd κ n 0) (upd h n (some (.mapb m []))) (n + 1)) (b := n) (Nat.lt_succ_self n)
    rw [show (ctx E (w.alloc (.map #[] 0)) (upd μ n w.heap.size) (upd κ n 0) (upd h n (some (.mapb m []))) (n + 1)).μ n = w.heap.size from upd_same _ _ _] at this
    exact .c this

theorem mput_core {t : TypeId} {x k u : Operand} {m : MK} {kt et : TypeId} {x' k' u' : Arg} (hq : keyT P t = some (m, kt, et)) (hx : compArg P t x = some x') (hk : compArg P kt k = some k') (hv : compArg P et u = some u')
    (hs : step2 Γ ⟨env, h, n⟩ (.mput m x' k' u') = some (v, h', n')) :
    ∃ w', (Instr.mapUpdate t (a.eval x) (a.eval k) (a.eval u)).run P w = .ok () w' ∧ v = none ∧ HeapOK Γ E w' μ κ h' n' ∧ From E (ctx E w μ κ h n) (ctx E w' μ κ h' n') := by
  obtain ⟨hu, hkd⟩ := keyT_ok hq
  simp only [step2] at hs
  split at hs
  · rename_i b kc va hgx hgk hgv
    split at hs
    · rename_i m' es hb
      split at hs
      · rename_i hcond
        obtain ⟨rfl, hko, hfv⟩ := hcond
        simp only [Option.some.injEq, Prod.mk.injEq] at hs
        obtain ⟨rfl, rfl, rfl⟩ := hs
        have hr := relV_c (arg_ok H HE hx hgx)
        have ek := relV_c (arg_ok H HE hk hgk)
        have ev := freeV_bare (arg_ok H HE hv hgv) hfv
        have ekb := free_bare ek (mk_free hko)
        have hkey := mk_isKey hko ek
        obtain ⟨A, c, hA, hsz, hes⟩ := H.blk b _ hb
        have hAw : w.heap[μ b]? = some (.map A c) := hA
        have ex : a.eval x = .map (some (μ b)) := by
          generalize a.eval x = q at hr
          cases hr with
          | mp h => rfl
        have hlt : μ b < w.heap.size := (Array.getElem?_eq_some_iff.1 hAw).1
        have wr : ∀ (A' : Array MapEntry) (c' : Nat), (A'.size = (putC kc va es).length ∧ Bn A' c') →
            (∀ (i : Nat) (k1 : Cel) (v1 : AV), (putC kc va es)[i]? = some (k1, v1) → m.ok k1 = true ∧ ∃ e, A'[i]? = some e ∧ RelC (ctx E w μ κ h n).bare k1 e.key ∧ RelV (ctx E w μ κ h n).bare v1 e.val) →
            HeapOK Γ E { w with heap := w.heap.setIfInBounds (μ b) (.map A' c') } μ κ (upd h b (some (.mapb m (putC kc va es)))) n ∧
              From E (ctx E w μ κ h n) (ctx E { w with heap := w.heap.setIfInBounds (μ b) (.map A' c') } μ κ (upd h b (some (.mapb m (putC kc va es)))) n) := by
          intro A' c' hs1 hs2
          have hne : ∀ k, k ≠ μ b → (w.heap.setIfInBounds (μ b) (.map A' c'))[k]? = w.heap[k]? := fun k hk => by simp [Array.getElem?_setIfInBounds, Ne.symm hk]
          refine H.write (w' := { w with heap := w.heap.setIfInBounds (μ b) (.map A' c') }) (x' := .mapb m (putC kc va es)) hb (by simp) rfl rfl rfl hne ?_
          refine ⟨A', c', ?_, hs1, fun i k1 v1 hi => ?_⟩
          · show (w.heap.setIfInBounds (μ b) _)[μ b]? = _
            rw [Array.getElem?_setIfInBounds_self_of_lt hlt]
          · obtain ⟨q0, e, q1, q2, q3⟩ := hs2 i k1 v1 hi
            have L : Ctx.Le (ctx E w μ κ h n).bare (ctx E { w with heap := w.heap.setIfInBounds (μ b) (.map A' c') } μ κ (upd h b (some (.mapb m (putC kc va es)))) n).bare :=
              ⟨Nat.le_refl _, fun b h => absurd h (Nat.not_lt_zero _), fun b h => absurd h (Nat.not_lt_zero _), fun k hk => ⟨by show k < (w.heap.setIfInBounds (μ b) _).size; simpa using hk.1, hk.2.1, fun b' y hb' => by
                by_cases e : b' = b
                · subst e; exact hk.2.2 b' _ hb
                · rw [upd_ne _ _ e] at hb'; exact hk.2.2 b' y hb'⟩, fun k hk => hne k (Ne.symm (hk.2.2 b _ hb))⟩
            exact ⟨q0, e, q1, q2.mono L, q3.mono L⟩
        rcases findNow_rel (K' := (ctx E w μ κ h n).bare) hko ek es A.toList 0 (by simpa using hsz.1) (fun j k v hj => by simpa using hes j k v hj) with ⟨g1, g2, g3⟩ | ⟨j, v0, e0, g0, g1, g2, g3, g4, g5, g6⟩
        · obtain ⟨H1, F1⟩ := wr (A.push { key := a.eval k, val := a.eval u, born := c }) (c + 1) ⟨by rw [g3]; simp [hsz.1], bn_push hsz.2⟩ (fun i k1 v1 hi => by
            rw [g3] at hi
            by_cases hlt' : i < es.length
            · rw [List.getElem?_append_left hlt'] at hi
              obtain ⟨q0, e, q1, q2, q3⟩ := hes i k1 v1 hi
              refine ⟨q0, e, ?_, q2, q3⟩
              have := hsz.1
              rw [Array.getElem?_push, if_neg (by omega)]; exact q1
            · rw [List.getElem?_append_right (by omega)] at hi
              have : i = es.length := by
                have := (List.getElem?_eq_some_iff.1 hi).1
                simp at this
                omega
              subst this
              simp at hi
              obtain ⟨rfl, rfl⟩ := hi
              refine ⟨hko, _, by rw [Array.getElem?_push, if_pos hsz.1.symm], ekb, ev⟩)
          refine ⟨_, ?_, rfl, H1, F1⟩
          rw [ex]
          simp only [Instr.mapUpdate, Sem.run_bind, run_underlying hu, MapKept.run_getObj_map hAw, MapKept.run_checkKey hkd hkey, MapKept.run_findKey hkd g2, Result.andThen_ok, MapKept.run_setObj_map _ hAw]
        · rw [Nat.zero_add] at g4
          have hj : A[j]? = some e0 := by simpa using g2
          obtain ⟨H1, F1⟩ := wr (A.modify j fun e => { e with key := a.eval k, val := a.eval u }) c ⟨by rw [g6]; simp [hsz.1], bn_modify hsz.2⟩ (fun i k1 v1 hi => by
            rw [g6] at hi
            by_cases hij : j = i
            · subst hij
              rw [List.getElem?_set_self g0] at hi
              cases hi
              exact ⟨hko, { e0 with key := a.eval k, val := a.eval u }, by rw [Array.getElem?_modify, if_pos rfl, hj]; rfl, ekb, ev⟩
            · rw [List.getElem?_set_ne hij] at hi
              obtain ⟨q0, e, q1, q2, q3⟩ := hes i k1 v1 hi
              exact ⟨q0, e, by rw [Array.getElem?_modify, if_neg hij]; exact q1, q2, q3⟩)
          refine ⟨_, ?_, rfl, H1, F1⟩
          rw [ex]
          have hst : (Instr.keyThatStays (((A[j]?).map (·.key)).getD (a.eval k)) (a.eval k)).run P w = .ok (a.eval k) w := by
            rw [hj]
            show (Instr.keyThatStays e0.key (a.eval k)).run P w = _
            rw [g5]
            exact MapKept.run_keyThatStays hkey
          simp only [Instr.mapUpdate, Sem.run_bind, run_underlying hu, MapKept.run_getObj_map hAw, MapKept.run_checkKey hkd hkey, MapKept.run_findKey hkd g4, Result.andThen_ok, hst, MapKept.run_setObj_map _ hAw]
      · cases hs
    · cases hs
  · cases hs

omit H HE in
theorem two_args {x y : Operand} {args : Array Operand} (h : args.toList = [x, y]) : args = #[x, y] := by cases args; simp_all
omit H HE in
theorem one_arg {x : Operand} {args : Array Operand} (h : args.toList = [x]) : args = #[x] := by cases args; simp_all
omit H HE in
theorem one_type {x : TypeId} {args : Array TypeId} (h : args.toList = [x]) : args = #[x] := by cases args; simp_all
omit H HE in
theorem two_types {x y : TypeId} {args : Array TypeId} (h : args.toList = [x, y]) : args = #[x, y] := by cases args; simp_all

theorem step2_ok {o : Oper} (hc : compOp P o = some ao) (hs : step2 Γ ⟨env, h, n⟩ ao = some (v, h', n')) : Did P Γ E w μ κ h n a o v h' n' := by
  obtain ⟨dst, op, type, pos, after, guard⟩ := o
  have hc0 := hc
  cases op with
  | alloc e => exact alloc_ok H hc hs
  | box e x => exact box_ok H HE hc hs
  | buildSlice t len ps => exact bslice_ok H HE hc hs
  | store t p x => exact store_ok H HE hc hs
  | makeSlice t l c => exact mksl_ok H HE hc hs
  | makeMap t r =>
    cases r with
    | some q => simp [compOp] at hc
    | none => exact mkmap_ok H hc hs
  | mapUpdate t x k u =>
    simp only [compOp, bind, Option.bind_eq_some_iff, Option.some.injEq] at hc
    obtain ⟨⟨m, kt, et⟩, hq, x', hx, k', hk, u', hv, rfl⟩ := hc
    obtain ⟨w', h1, rfl, h3, h4⟩ := mput_core H HE hq hx hk hv hs
    refine ⟨w', μ, κ, .skip, undef, ?_, .inr ⟨rfl, rfl⟩, h3, h4, fun x hx => by cases hx⟩
    simp only [execOp, Sem.run_bind, h1, Result.andThen_ok, Sem.run_pure]
  | insert t x k u =>
    simp only [compOp, bind, Option.bind_eq_some_iff, Option.some.injEq] at hc
    obtain ⟨⟨m, kt, et⟩, hq, x', hx, k', hk, u', hv, rfl⟩ := hc
    obtain ⟨w', h1, rfl, h3, h4⟩ := mput_core H HE hq hx hk hv hs
    refine ⟨w', μ, κ, .skip, undef, ?_, .inr ⟨rfl, rfl⟩, h3, h4, fun x hx => by cases hx⟩
    simp only [execOp, Sem.run_bind, h1, Result.andThen_ok, Sem.run_pure]
  | lookup t x k ok =>
    simp only [compOp, bind, Option.bind_eq_some_iff, Option.some.injEq] at hc
    obtain ⟨_, _, _, _, _, _, _, _, rfl⟩ := hc
    simp only [step2] at hs
    cases hs
  | range t x =>
    simp only [compOp] at hc
    split at hc
    · rename_i hu
      obtain ⟨y, hy, rfl⟩ := Option.map_eq_some_iff.1 hc
      exact rangeS_ok H HE hu hy hs
    · rename_i kt et hu
      obtain ⟨y, hy, rfl⟩ := Option.map_eq_some_iff.1 hc
      exact rangeM_ok H HE hu hy hs
    · cases hc
  | entry it =>
    simp only [compOp] at hc
    obtain ⟨y, hy, rfl⟩ := Option.map_eq_some_iff.1 hc
    exact entryM_ok H HE hy hs
  | next it b =>
    cases b with
    | false =>
      simp only [compOp] at hc
      obtain ⟨y, hy, rfl⟩ := Option.map_eq_some_iff.1 hc
      simp only [step2] at hs
      cases hs
    | true =>
      simp only [compOp] at hc
      obtain ⟨y, hy, rfl⟩ := Option.map_eq_some_iff.1 hc
      exact nextS_ok H HE hy hs
  | convert s d x =>
    simp only [compOp, bind, Option.bind_eq_some_iff] at hc
    obtain ⟨y, hy, hc⟩ := hc
    split at hc
    · simp only [Option.some.injEq] at hc
      subst hc
      cases hs
    · simp only [Option.some.injEq] at hc
      subst hc
      cases hs
    · rename_i e h1 h2
      split at hc
      · rename_i h3
        simp only [Option.some.injEq] at hc
        subst hc
        exact toBytes_ok H HE h1 h2 h3 hy hs
      · cases hc
    · split at hc
      · simp only [Option.some.injEq] at hc
        subst hc
        cases hs
      · cases hc
    · cases hc
  | call c =>
    obtain ⟨callee, args, argTypes⟩ := c
    cases callee with
    | invoke r m => simp [compOp] at hc
    | value f =>
      have : step2 Γ ⟨env, h, n⟩ ao = none := by
        cases f <;> simp only [compOp, bind, Option.bind_eq_some_iff, Option.some.injEq] at hc
        case func =>
          split at hc
          · simp only [Option.bind_eq_some_iff, Option.some.injEq] at hc
            obtain ⟨_, _, rfl⟩ := hc
            rfl
          · cases hc
        all_goals
          obtain ⟨_, _, _, _, rfl⟩ := hc
          rfl
      rw [this] at hs
      cases hs
    | builtin b =>
      cases b with
      | append =>
        simp only [compOp] at hc
        split at hc
        · rename_i x y t u ha ht
          obtain rfl := two_args ha
          obtain rfl := two_types ht
          simp only [bind, Option.bind_eq_some_iff] at hc
          obtain ⟨e, he, ti, hti, x', hx, y', hy, hc⟩ := hc
          split at hc
          · cases hc
          · rename_i hcond
            split at hc
            · rename_i e' hu
              simp only [Option.some.injEq] at hc
              subst hc
              exact app_ok H HE he hti hx hy hcond hu hs
            · rename_i hu
              split at hc
              · rename_i h12
                simp only [Option.some.injEq] at hc
                subst hc
                exact appS_ok H HE he hti hx hy hcond hu h12.1 h12.2 hs
              · cases hc
            · cases hc
        · cases hc
      | copy =>
        simp only [compOp] at hc
        split at hc
        · rename_i x y t u ha ht
          obtain rfl := two_args ha
          obtain rfl := two_types ht
          simp only [bind, Option.bind_eq_some_iff, Option.some.injEq] at hc
          obtain ⟨e, he, e', he', sz, hsz, x', hx, y', hy, rfl⟩ := hc
          exact cpy_ok H HE he hsz he' hx hy hs
        · cases hc
      | clear =>
        simp only [compOp] at hc
        split at hc
        · rename_i x t ha ht
          obtain rfl := one_arg ha
          obtain rfl := one_type ht
          simp only [bind, Option.bind_eq_some_iff] at hc
          obtain ⟨e, he, ti, hti, z, hz, x', hx, hc⟩ := hc
          split at hc
          · rename_i hcond
            simp only [Option.some.injEq] at hc
            subst hc
            exact clr_ok H HE he hti hz hcond hx hs
          · cases hc
        · cases hc
      | len =>
        exfalso
        simp only [compOp] at hc
        split at hc
        · split at hc
          · obtain ⟨y, hy, rfl⟩ := Option.map_eq_some_iff.1 hc
            cases hs
          · obtain ⟨y, hy, rfl⟩ := Option.map_eq_some_iff.1 hc
            cases hs
          · simp only [Option.some.injEq] at hc
            subst hc
            cases hs
          · cases hc
        · cases hc
      | min =>
        simp only [compOp] at hc
        obtain ⟨ys, hy, rfl⟩ := Option.map_eq_some_iff.1 hc
        cases hs
      | max =>
        simp only [compOp] at hc
        obtain ⟨ys, hy, rfl⟩ := Option.map_eq_some_iff.1 hc
        cases hs
      | _ => simp [compOp] at hc
  | move x | assign x | nilCheck x =>
    simp only [compOp] at hc
    obtain ⟨y, hy, rfl⟩ := Option.map_eq_some_iff.1 hc
    cases hs
  | pick c x y =>
    simp only [compOp, bind, Option.bind_eq_some_iff, Option.some.injEq] at hc
    obtain ⟨_, _, _, _, _, _, rfl⟩ := hc
    cases hs
  | build t parts =>
    simp only [compOp, bind, Option.bind_eq_some_iff] at hc
    obtain ⟨z, hz, hc⟩ := hc
    split at hc
    · simp only [Option.bind_eq_some_iff] at hc
      obtain ⟨ps, hps, hc⟩ := hc
      split at hc
      · simp only [Option.some.injEq] at hc
        subst hc
        cases hs
      · cases hc
    · simp only [Option.bind_eq_some_iff, Option.some.injEq] at hc
      obtain ⟨_, _, _, _, rfl⟩ := hc
      cases hs
    · cases hc
  | load t x =>
    simp only [compOp, bind, Option.bind_eq_some_iff, Option.some.injEq] at hc
    obtain ⟨_, _, _, _, _, _, rfl⟩ := hc
    cases hs
  | unOp o t x =>
    simp only [compOp] at hc
    obtain ⟨y, hy, rfl⟩ := Option.map_eq_some_iff.1 hc
    cases hs
  | binOp o t x y yt =>
    simp only [compOp, compBin, bind, Option.bind_eq_some_iff] at hc
    obtain ⟨p, hp, q, hq, hc⟩ := hc
    have : step2 Γ ⟨env, h, n⟩ ao = none := by
      unfold compEq at hc
      repeat' split at hc
      all_goals first
        | (cases hc; done)
        | (simp only [Option.some.injEq] at hc; subst hc; rfl)
        | (simp only [Option.map_eq_some_iff] at hc; obtain ⟨_, _, rfl⟩ := hc; rfl)
    rw [this] at hs
    cases hs
  | makeInterface t x =>
    exfalso
    simp only [compOp] at hc
    split at hc
    · cases hc
    · split at hc
      · split at hc <;> cases hc <;> cases hs
      · cases hc; cases hs
    · cases hc
  | makeFunc f first captured =>
    simp only [compOp, bind, Option.bind_eq_some_iff, Option.some.injEq] at hc
    obtain ⟨_, _, _, _, rfl⟩ := hc
    cases hs
  | extract t i =>
    simp only [compOp] at hc
    obtain ⟨y, hy, rfl⟩ := Option.map_eq_some_iff.1 hc
    cases hs
  | slice t x lo hi mx =>
    simp only [compOp, bind, Option.bind_eq_some_iff] at hc
    obtain ⟨y, hy, l, hl, h1, hh, m, hm, hc⟩ := hc
    by_cases harr : ∃ k e, P.underlying t = some (.array k e)
    · obtain ⟨k, e, hu⟩ := harr
      rw [hu] at hc
      simp only [] at hc
      split at hc
      · rename_i hmx
        obtain rfl : mx = none := by cases mx with | none => rfl | some q => simp at hmx
        simp only [Option.bind_eq_some_iff, Option.some.injEq] at hc
        obtain ⟨sz, hsz, rfl⟩ := hc
        exact slArr_ok H HE hu hsz hy hl hh hs
      · cases hc
    have : step2 Γ ⟨env, h, n⟩ ao = none := by
      repeat' split at hc
      all_goals first
        | (cases hc; done)
        | (exact absurd ⟨_, _, by assumption⟩ harr)
        | (simp only [Option.some.injEq] at hc; subst hc; rfl)
        | (simp only [Option.bind_eq_some_iff, Option.some.injEq] at hc; obtain ⟨_, _, rfl⟩ := hc; rfl)
    rw [this] at hs
    cases hs
  | fieldAddr t x f | field t x f | indexAddr t x i | index t x i =>
    simp only [compOp, bind, Option.bind_eq_some_iff] at hc
    have : step2 Γ ⟨env, h, n⟩ ao = none := by
      try obtain ⟨_, _, hc⟩ := hc
      try obtain ⟨_, _, hc⟩ := hc
      repeat' split at hc
      all_goals try simp only [Option.bind_eq_some_iff] at hc
      all_goals try obtain ⟨_, _, hc⟩ := hc
      all_goals try obtain ⟨_, _, hc⟩ := hc
      all_goals try obtain ⟨_, _, hc⟩ := hc
      all_goals repeat' split at hc
      all_goals try simp only [Option.bind_eq_some_iff] at hc
      all_goals try obtain ⟨_, _, hc⟩ := hc
      all_goals try obtain ⟨_, _, hc⟩ := hc
      all_goals first
        | rfl
        | (cases hc; done)
        | (simp only [Option.some.injEq] at hc; subst hc; rfl)
    rw [this] at hs
    cases hs
  | _ => simp [compOp] at hc

end
end Go.Proofs.YtolmbcngghkfiaaDoorBv
