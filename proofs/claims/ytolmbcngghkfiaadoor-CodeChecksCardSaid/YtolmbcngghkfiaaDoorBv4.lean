/- The calculus: each operation that only looks, by itself. It proves nothing of any program. -/
import Derived.Test.YtolmbcngghkfiaaDoorBv3
namespace Go.Proofs.YtolmbcngghkfiaaDoorBv
open Go
set_option linter.unusedVariables false
set_option linter.unusedSimpArgs false

/-- In every world in which what was there is as it was, the operation yields one and the same value and leaves the world alone. -/
def LookM (r : Bool) (P : Program) (K : Ctx) (a : Act) (o : Oper) (v : AV) : Prop :=
  ∃ cv, RelV K v cv ∧ ∀ w' : World, (r = true → ∀ k, k < K.w.heap.size → w'.heap[k]? = K.w.heap[k]?) → (execOp a.eval o).run P w' = .ok (.value cv) w'
/-- the same in every world at all -/
abbrev Look0 := LookM false
theorem LookM.any {r : Bool} {P : Program} {K : Ctx} {a : Act} {o : Oper} {v : AV} (h : Look0 P K a o v) : LookM r P K a o v := by
  obtain ⟨cv, h1, h2⟩ := h
  exact ⟨cv, h1, fun w' _ => h2 w' fun h => by cases h⟩

theorem cell_lt {w : World} {ad : Addr} {v : Value} (h : w.cell? ad = some v) : ad.block < w.heap.size := by
  unfold World.cell? at h
  rcases Nat.lt_or_ge ad.block w.heap.size with h' | h'
  · exact h'
  · rw [Array.getElem?_eq_none h'] at h; cases h

theorem cell_keep {w w' : World} {ad : Addr} {v : Value} (hk : ∀ k, k < w.heap.size → w'.heap[k]? = w.heap[k]?) (h : w.cell? ad = some v) : w'.cell? ad = some v := by
  rw [← h]; exact cell_of_block (hk _ (cell_lt h))

section
variable {P : Program} {Γ : Glob} {E : Nat → Prop} {w : World} {μ κ : Nat → Nat} {h : Heap} {n : Nat} {env : Nat → Option AV} {a : Act}
  {dst : Option Tmp} {type : TypeId} {pos : String} {after : Array Edge} {guard : Option (Nat × Bool)} {ao : AOp} {v : AV}
variable (H : HeapOK Γ E w μ κ h n) (HE : EnvOK (ctx E w μ κ h n) env a)
include H HE

theorem mov_ok {x : Operand} (hc : (compArg P type x).map AOp.mov = some ao) (hs : step1 Γ ⟨env, h, n⟩ ao = some v) :
    Look0 P (ctx E w μ κ h n) a ⟨dst, .move x, type, pos, after, guard⟩ v ∧ Look0 P (ctx E w μ κ h n) a ⟨dst, .assign x, type, pos, after, guard⟩ v := by
  obtain ⟨y, hy, rfl⟩ := Option.map_eq_some_iff.1 hc
  have := arg_ok H HE hy hs
  exact ⟨⟨_, this, fun w' _ => rfl⟩, ⟨_, this, fun w' _ => rfl⟩⟩

theorem pick_ok {c x y : Operand} (hc : compOp P ⟨dst, .pick c x y, type, pos, after, guard⟩ = some ao) (hs : step1 Γ ⟨env, h, n⟩ ao = some v) :
    Look0 P (ctx E w μ κ h n) a ⟨dst, .pick c x y, type, pos, after, guard⟩ v := by
  simp only [compOp, bind, Option.bind_eq_some_iff, Option.some.injEq] at hc
  obtain ⟨c', hc1, x', hx1, y', hy1, rfl⟩ := hc
  simp only [step1] at hs
  split at hs
  · rename_i t ht
    have h1 := relC_bool (relV_c (arg_ok H HE hc1 ht))
    have key : ∀ z z', compArg P type z = some z' → z'.get Γ env = some v → (if t then a.eval x else a.eval y) = a.eval z → Look0 P (ctx E w μ κ h n) a ⟨dst, .pick c x y, type, pos, after, guard⟩ v := by
      intro z z' hz hz' he
      refine ⟨_, arg_ok H HE hz hz', fun w' _ => ?_⟩
      simp only [execOp, h1, asBool, Sem.run_bind, Sem.run_pure, Result.andThen_ok, ← he]
    have hif : (if t then x'.get Γ env else y'.get Γ env) = some v → Look0 P (ctx E w μ κ h n) a ⟨dst, .pick c x y, type, pos, after, guard⟩ v := by
      intro hi
      cases t
      · exact key y y' hy1 hi rfl
      · exact key x x' hx1 hi rfl
    unfold pickV at hs
    split at hs
    · rename_i p q h2 h3
      refine hif ?_
      rw [h2, h3]
      cases t <;> simpa using hs
    · exact hif hs
  · cases hs

theorem nilc_ok {x : Operand} (hc : compOp P ⟨dst, .nilCheck x, type, pos, after, guard⟩ = some ao) (hs : step1 Γ ⟨env, h, n⟩ ao = some v) :
    Look0 P (ctx E w μ κ h n) a ⟨dst, .nilCheck x, type, pos, after, guard⟩ v := by
  simp only [compOp, Option.map_eq_some_iff] at hc
  obtain ⟨y, hy, rfl⟩ := hc
  simp only [step1] at hs
  split at hs
  · rename_i b sz i j hg
    simp only [Option.some.injEq] at hs
    subst hs
    have hr := arg_ok H HE hy hg
    obtain ⟨_, he⟩ := relC_ref (relV_c hr)
    refine ⟨_, hr, fun w' _ => ?_⟩
    simp only [execOp, he]
    rfl
  · rename_i cs hg
    simp only [Option.some.injEq] at hs
    subst hs
    have hr := arg_ok H HE hy hg
    obtain ⟨ad, f, he, _⟩ := relC_rop (relV_c hr)
    refine ⟨_, hr, fun w' _ => ?_⟩
    simp only [execOp, he]
    rfl
  · cases hs

theorem load_ok {t : TypeId} {x : Operand} (hc : compOp P ⟨dst, .load t x, type, pos, after, guard⟩ = some ao) (hs : step1 Γ ⟨env, h, n⟩ ao = some v) :
    LookM true P (ctx E w μ κ h n) a ⟨dst, .load t x, type, pos, after, guard⟩ v := by
  simp only [compOp, bind, Option.bind_eq_some_iff, Option.some.injEq] at hc
  obtain ⟨agg, hg, m, hm, y, hy, rfl⟩ := hc
  simp only [step1] at hs
  split at hs
  · rename_i b sz i j hge
    split at hs
    · rename_i s es hb
      split at hs
      · rename_i hss
        subst hss
        split at hs
        · rename_i e hi
          obtain ⟨_, he⟩ := relC_ref (relV_c (arg_ok H HE hy hge))
          obtain ⟨C, tt, fr, hC, _, _, _, hes⟩ := H.blk b _ hb
          obtain ⟨hel, hcell⟩ := hes i e hi
          have hx : ∀ q x, (e.drop j)[q]? = some x → C[i * s + j + q]? = some (C.getD (i * s + j + q) undef) ∧ RelC (ctx E w μ κ h n) x (C.getD (i * s + j + q) undef) := by
            intro q x hq
            rw [List.getElem?_drop] at hq
            obtain ⟨u, hu, hr⟩ := hcell (j + q) x hq
            rw [← Nat.add_assoc] at hu
            rw [getD_of hu]
            exact ⟨hu, hr⟩
          obtain ⟨cv, hr, hrun⟩ := rd_run (ad := ⟨μ b, i * s + j, none⟩) (fun q => C.getD (i * s + j + q) undef) hg hm hs (fun q x hq => (hx q x hq).2)
          refine ⟨cv, hr, fun w' hk0 => ?_⟩
          have hk := hk0 rfl
          simp only [execOp, he, Instr.loadAt, Instr.sureAddr, Sem.run_bind, Sem.run_pure, Result.andThen_ok]
          have hb' : w'.heap[μ b]? = some (.cells C tt fr) := by
            have := hk _ (BlkRel.lt (H.blk b _ hb))
            exact this.trans hC
          have := hrun w' (fun q x hq => by
            have hh : (Addr.add ⟨μ b, i * s + j, none⟩ q) = ⟨μ b, i * s + j + q, none⟩ := by
              unfold Addr.add; split
              · rename_i h0; subst h0; rfl
              · rfl
            rw [hh]
            show (match w'.heap[μ b]? with | some (Obj.cells c _ _) => if false then none else c[i * s + j + q]? | _ => none) = _
            rw [hb']
            exact (hx q x hq).1)
          rw [show (ctx E w μ κ h n).μ b = μ b from rfl, this]
          rfl
        · cases hs
      · cases hs
    · cases hs
  · rename_i cs hge
    have hr := relV_c (arg_ok H HE hy hge)
    generalize hu : a.eval x = u at *
    cases hr with
    | @rop _ _ ad f hss hcell hrel =>
      obtain ⟨cv, hr, hrun⟩ := rd_run (ad := ad) f hg hm hs (fun q x hq => (hrel q x hq).mono (Ctx.bare_le _))
      refine ⟨cv, hr, fun w' hk => ?_⟩
      simp only [execOp, hu, Instr.loadAt, Instr.sureAddr, Sem.run_bind, Sem.run_pure, Result.andThen_ok]
      rw [hrun w' (fun q x hq => cell_keep (hk rfl) (hcell q x hq))]
      rfl
  · cases hs

theorem faddr_ok {t : TypeId} {x : Operand} {f : Nat} (hc : compOp P ⟨dst, .fieldAddr t x f, type, pos, after, guard⟩ = some ao) (hs : step1 Γ ⟨env, h, n⟩ ao = some v) :
    Look0 P (ctx E w μ κ h n) a ⟨dst, .fieldAddr t x f, type, pos, after, guard⟩ v := by
  simp only [compOp] at hc
  split at hc
  · rename_i fs hu
    simp only [bind, Option.bind_eq_some_iff] at hc
    obtain ⟨fd, hf, m, hm, hc⟩ := hc
    split at hc
    · cases hc
    rename_i hm0
    simp only [Option.bind_eq_some_iff, Option.some.injEq] at hc
    obtain ⟨y, hy, rfl⟩ := hc
    have run : ∀ (ad : Addr) (w' : World), a.eval x = .pointer (some ad) → (execOp a.eval ⟨dst, .fieldAddr t x f, type, pos, after, guard⟩).run P w' = .ok (.value (.pointer (some (ad.add fd.offset)))) w' := by
      intro ad w' he
      simp only [execOp, he, Instr.fieldAt, Sem.run_bind, run_underlying hu, Result.andThen_ok, hf, Instr.sureAddr, Sem.run_pure, fieldPlace, run_sizeOf' hm, hm0, if_false]
    simp only [step1] at hs
    split at hs
    · rename_i b sz i j hg
      simp only [Option.some.injEq] at hs
      subst hs
      obtain ⟨hb, he⟩ := relC_ref (relV_c (arg_ok H HE hy hg))
      refine ⟨.pointer (some ⟨μ b, i * sz + (j + fd.offset), none⟩), .c (.ref hb), fun w' _ => ?_⟩
      rw [run _ w' he]
      congr 3
      unfold Addr.add
      split
      · rename_i h0; rw [h0]; rfl
      · simp only [Nat.add_assoc]; rfl
    · rename_i cs hg
      simp only [Option.some.injEq] at hs
      subst hs
      have hr := relV_c (arg_ok H HE hy hg)
      generalize hu' : a.eval x = u at *
      cases hr with
      | @rop _ _ ad g hss hcell hrel =>
        refine ⟨.pointer (some (ad.add fd.offset)), .c (.rop (fun q => g (fd.offset + q)) (fun h0 => ?_) (fun q z hq => ?_) (fun q z hq => ?_)), fun w' _ => ?_⟩
        · rw [add_block]; exact hss (by intro h1; rw [h1] at h0; simp at h0)
        · rw [List.getElem?_drop] at hq
          rw [← hcell _ _ hq]
          congr 1
          unfold Addr.add
          by_cases h1 : fd.offset = 0
          · simp [h1]
          · by_cases h2 : q = 0
            · simp [h1, h2]
            · simp [h1, h2, Nat.add_assoc]
        · rw [List.getElem?_drop] at hq
          exact hrel _ _ hq
        · exact run _ w' rfl
    · cases hs
  · cases hc

theorem fld_ok {t : TypeId} {x : Operand} {f : Nat} (hc : compOp P ⟨dst, .field t x f, type, pos, after, guard⟩ = some ao) (hs : step1 Γ ⟨env, h, n⟩ ao = some v) :
    Look0 P (ctx E w μ κ h n) a ⟨dst, .field t x f, type, pos, after, guard⟩ v := by
  simp only [compOp] at hc
  split at hc
  · rename_i fs hu
    simp only [bind, Option.bind_eq_some_iff, Option.some.injEq] at hc
    obtain ⟨fd, hf, g, hg, m, hm, y, hy, rfl⟩ := hc
    simp only [step1] at hs
    split at hs
    · rename_i cs hge
      obtain ⟨vs, he, hl, hr⟩ := relV_agg (arg_ok H HE hy hge)
      obtain ⟨cv, h1, h2⟩ := rd_part (K := ctx E w μ κ h n) hg hm hl hs hr
      refine ⟨cv, h1, fun w' _ => ?_⟩
      simp only [execOp, he, Instr.field, Sem.run_bind, run_underlying hu, Result.andThen_ok, hf, asAgg, Sem.run_pure, h2 w']
    · cases hs
  · cases hc

theorem idx_ok {t : TypeId} {x i : Operand} (hc : compOp P ⟨dst, .index t x i, type, pos, after, guard⟩ = some ao) (hs : step1 Γ ⟨env, h, n⟩ ao = some v) :
    Look0 P (ctx E w μ κ h n) a ⟨dst, .index t x i, type, pos, after, guard⟩ v := by
  simp only [compOp, bind, Option.bind_eq_some_iff] at hc
  obtain ⟨x', hx, i', hi, hc⟩ := hc
  split at hc
  · rename_i hu
    simp only [Option.some.injEq] at hc
    subst hc
    simp only [step1] at hs
    split at hs
    · rename_i l k hg hk
      obtain ⟨kk, hik⟩ := getI_ok H HE hi hk
      have he := relC_str (relV_c (arg_ok H HE hx hg))
      split at hs
      · rename_i h0
        split at hs
        · rename_i b hb
          simp only [Option.some.injEq] at hs
          subst hs
          refine ⟨_, .c (.val rfl), fun w' _ => ?_⟩
          obtain ⟨hlt, hget⟩ := List.getElem?_eq_some_iff.1 hb
          have hbb : (⟨l.toArray⟩ : ByteArray)[k.toNat]? = some b := by
            rw [getElem?_pos (⟨l.toArray⟩ : ByteArray) k.toNat (by show k.toNat < l.toArray.size; simpa using hlt)]
            rw [← hget]; rfl
          simp only [execOp, he, hik, Instr.index, asIntOf, Sem.run_bind, Sem.run_pure, Result.andThen_ok, run_underlying hu, h0, if_true, hbb]
        · cases hs
      · cases hs
    · cases hs
  · rename_i len e hu
    simp only [Option.bind_eq_some_iff, Option.some.injEq] at hc
    obtain ⟨g, hg, m, hm, rfl⟩ := hc
    simp only [step1] at hs
    split at hs
    · rename_i cs k hge hk
      obtain ⟨kk, hik⟩ := getI_ok H HE hi hk
      obtain ⟨vs, he, hl, hr⟩ := relV_agg (arg_ok H HE hx hge)
      split at hs
      · rename_i h0
        obtain ⟨cv, h1, h2⟩ := rd_part (K := ctx E w μ κ h n) hg hm hl hs hr
        refine ⟨cv, h1, fun w' _ => ?_⟩
        simp only [execOp, he, hik, Instr.index, asIntOf, Sem.run_bind, Sem.run_pure, Result.andThen_ok, run_underlying hu, h0, and_self, if_true, run_sizeOf' hm, h2 w']
      · cases hs
    · cases hs
  · cases hc

theorem ext_ok {t : Operand} {i : Nat} (hc : compOp P ⟨dst, .extract t i, type, pos, after, guard⟩ = some ao) (hs : step1 Γ ⟨env, h, n⟩ ao = some v) :
    Look0 P (ctx E w μ κ h n) a ⟨dst, .extract t i, type, pos, after, guard⟩ v := by
  simp only [compOp, Option.map_eq_some_iff] at hc
  obtain ⟨y, hy, rfl⟩ := hc
  simp only [step1] at hs
  split at hs
  · rename_i xs hg
    obtain ⟨vs, he, hl, hr⟩ := relV_tup (arg_ok H HE hy hg)
    have hlt : i < vs.size := by rw [← hl]; exact (List.getElem?_eq_some_iff.1 hs).1
    refine ⟨_, hr i v hs, fun w' _ => ?_⟩
    simp only [execOp, he, Instr.extract, get_of_getD hlt, Sem.run_bind, Sem.run_pure, Result.andThen_ok]
  · cases hs

theorem conv_ok {s d : TypeId} {x : Operand} {k : IntKind} {y : Arg} (hd : P.underlying d = some (.int k)) (hsrc : ∃ u, P.underlying s = some u) (hy : compArg P s x = some y) (hs : step1 Γ ⟨env, h, n⟩ (.conv k y) = some v) :
    Look0 P (ctx E w μ κ h n) a ⟨dst, .convert s d x, type, pos, after, guard⟩ v := by
  simp only [step1] at hs
  split at hs
  · rename_i k' m hg
    simp only [Option.some.injEq] at hs
    subst hs
    have he := relC_int (relV_c (arg_ok H HE hy hg))
    obtain ⟨u, hu⟩ := hsrc
    refine ⟨_, .c (.val rfl), fun w' _ => ?_⟩
    simp only [execOp, he, convert, Sem.run_bind, run_underlying hu, run_underlying hd, Result.andThen_ok]
    cases u <;> rfl
  · cases hs

theorem un_ok {op : UnOp} {t : TypeId} {x : Operand} (hc : compOp P ⟨dst, .unOp op t x, type, pos, after, guard⟩ = some ao) (hs : step1 Γ ⟨env, h, n⟩ ao = some v) :
    Look0 P (ctx E w μ κ h n) a ⟨dst, .unOp op t x, type, pos, after, guard⟩ v := by
  simp only [compOp, Option.map_eq_some_iff] at hc
  obtain ⟨y, hy, rfl⟩ := hc
  simp only [step1] at hs
  split at hs
  · rename_i u hg
    have he := relC_val (relV_c (arg_ok H HE hy hg))
    obtain ⟨z, hz, rfl⟩ := Option.map_eq_some_iff.1 hs
    unfold unV at hz
    split at hz
    · split at hz
      · simp only [Option.some.injEq] at hz; subst hz
        exact ⟨_, .c (.val rfl), fun w' _ => by simp only [execOp, he]; rfl⟩
      · simp only [Option.some.injEq] at hz; subst hz
        exact ⟨_, .c (.val rfl), fun w' _ => by simp only [execOp, he]; rfl⟩
      · cases hz
    · split at hz
      · simp only [Option.some.injEq] at hz; subst hz
        exact ⟨_, .c (.val rfl), fun w' _ => by simp only [execOp, he]; rfl⟩
      · cases hz
    · cases hz
  · cases hs
end
end Go.Proofs.YtolmbcngghkfiaaDoorBv
