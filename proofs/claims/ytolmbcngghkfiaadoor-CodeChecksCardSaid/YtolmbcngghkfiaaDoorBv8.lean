/- The calculus: structs and arrays that are built; and all operations that only look, together. It proves nothing of any program. -/
import Derived.Test.YtolmbcngghkfiaaDoorBv7
namespace Go.Proofs.YtolmbcngghkfiaaDoorBv
open Go
set_option linter.unusedVariables false
set_option linter.unusedSimpArgs false

theorem fold_set : ∀ (l : List Value) (s off : Nat) (cs : Array Value), off + s + l.length ≤ cs.size →
    ((l.zipIdx s).foldl (fun (cs : Array Value) p => cs.setIfInBounds (off + p.2) p.1) cs).size = cs.size ∧
    ∀ k, ((l.zipIdx s).foldl (fun (cs : Array Value) p => cs.setIfInBounds (off + p.2) p.1) cs)[k]? = if off + s ≤ k ∧ k < off + s + l.length then l[k - (off + s)]? else cs[k]? := by
  intro l
  induction l with
  | nil => intro s off cs _; exact ⟨rfl, fun k => by rw [if_neg (by simp)]; rfl⟩
  | cons v l ih =>
    intro s off cs hl
    simp only [List.length_cons] at hl
    simp only [List.zipIdx_cons, List.foldl_cons]
    obtain ⟨h1, h2⟩ := ih (s + 1) off (cs.setIfInBounds (off + s) v) (by rw [Array.size_setIfInBounds]; omega)
    refine ⟨by rw [h1]; simp, fun k => ?_⟩
    rw [h2 k]
    simp only [List.length_cons]
    by_cases hk : off + (s + 1) ≤ k ∧ k < off + (s + 1) + l.length
    · rw [if_pos hk, if_pos (by omega)]
      rw [show k - (off + s) = (k - (off + (s + 1))) + 1 by omega]
      simp
    · rw [if_neg hk]
      by_cases hk2 : k = off + s
      · subst hk2
        rw [if_pos (by omega), Nat.sub_self, Array.getElem?_setIfInBounds_self_of_lt (by omega)]
        rfl
      · rw [if_neg (by omega), Array.getElem?_setIfInBounds_ne (by omega)]

/-- a part is laid into a row of cells -/
theorem fill_one {K : Ctx} {zero l : List Cel} {cs : Array Value} {u : Value} {off n : Nat} (hz : zero.length = cs.size) (hr : ∀ (i : Nat) (x : Cel), zero[i]? = some x → RelC K x (cs.getD i undef))
    (hl : l.length = u.cells.size) (hu : ∀ (i : Nat) (x : Cel), l[i]? = some x → RelC K x (u.cells.getD i undef)) (hn : l.length = n) (ho : off + n ≤ zero.length) :
    (zero.take off ++ l ++ zero.drop (off + n)).length = (u.cells.zipIdx.foldl (fun (cs : Array Value) p => cs.setIfInBounds (off + p.2) p.1) cs).size ∧
    ∀ (i : Nat) (x : Cel), (zero.take off ++ l ++ zero.drop (off + n))[i]? = some x → RelC K x ((u.cells.zipIdx.foldl (fun (cs : Array Value) p => cs.setIfInBounds (off + p.2) p.1) cs).getD i undef) := by
  have hfold : u.cells.zipIdx.foldl (fun (cs : Array Value) p => cs.setIfInBounds (off + p.2) p.1) cs = (u.cells.toList.zipIdx 0).foldl (fun (cs : Array Value) p => cs.setIfInBounds (off + p.2) p.1) cs := by
    rw [← Array.foldl_toList, Array.toList_zipIdx]
  obtain ⟨h1, h2⟩ := fold_set u.cells.toList 0 off cs (by rw [Array.length_toList, ← hl, hn]; omega)
  rw [hfold]
  rw [Array.length_toList, ← hl, hn] at h2
  refine ⟨by rw [h1, ← hz]; simp; omega, fun i x hx => ?_⟩
  have hget := h2 i
  simp only [Nat.add_zero] at hget
  have hilt : i < (zero.take off ++ l ++ zero.drop (off + n)).length := (List.getElem?_eq_some_iff.1 hx).1
  simp only [List.length_append, List.length_take, List.length_drop] at hilt
  by_cases c1 : i < off
  · rw [List.append_assoc, List.getElem?_append_left (by simp; omega), List.getElem?_take_of_lt c1] at hx
    rw [if_neg (by omega)] at hget
    rw [getD_of (v := cs.getD i undef) (by rw [hget]; exact get_of_getD (by omega))]
    exact hr i x hx
  · by_cases c2 : i < off + n
    · rw [List.append_assoc, List.getElem?_append_right (by simp; omega), List.getElem?_append_left (by simp; omega)] at hx
      rw [if_pos (by omega)] at hget
      have e : i - (zero.take off).length = i - off := by simp; omega
      rw [e] at hx
      rw [getD_of (v := u.cells.getD (i - off) undef) (by rw [hget, Array.getElem?_toList]; exact get_of_getD (by omega))]
      exact hu _ x hx
    · rw [List.getElem?_append_right (by simp; omega), List.getElem?_drop] at hx
      have e : off + n + (i - (zero.take off ++ l).length) = i := by simp; omega
      rw [e] at hx
      rw [if_neg (by omega)] at hget
      rw [getD_of (v := cs.getD i undef) (by rw [hget]; exact get_of_getD (by omega))]
      exact hr i x hx

theorem fillC_ok {K : Ctx} {place : Nat → Option (Nat × Nat)} : ∀ (ps : List (Nat × Value)) (l : List (Nat × Nat × List Cel)) (zero : List Cel) (cs : Array Value) (r : List Cel), ps.length = l.length →
    (∀ (k : Nat) p q, ps[k]? = some p → l[k]? = some q → place p.1 = some (q.1, q.2.1) ∧ q.2.2.length = p.2.cells.size ∧ ∀ (i : Nat) (x : Cel), q.2.2[i]? = some x → RelC K x (p.2.cells.getD i undef)) →
    zero.length = cs.size → (∀ (i : Nat) (x : Cel), zero[i]? = some x → RelC K x (cs.getD i undef)) → fillC zero l = some r →
    ∃ cs', Instr.fill place cs ps = some cs' ∧ r.length = cs'.size ∧ ∀ (i : Nat) (x : Cel), r[i]? = some x → RelC K x (cs'.getD i undef) := by
  intro ps
  induction ps with
  | nil =>
    intro l zero cs r hl _ hz hr hf
    have : l = [] := List.eq_nil_of_length_eq_zero (by simpa using hl.symm)
    subst this
    simp only [fillC, Option.some.injEq] at hf
    subst hf
    exact ⟨cs, rfl, hz, hr⟩
  | cons p ps ih =>
    intro l zero cs r hl hp hz hr hf
    cases l with
    | nil => simp at hl
    | cons q l =>
      obtain ⟨off, n, lq⟩ := q
      simp only [fillC] at hf
      split at hf
      · rename_i hc
        obtain ⟨h1, h2, h3⟩ := hp 0 p _ rfl rfl
        obtain ⟨g1, g2⟩ := fill_one hz hr h2 h3 hc.1 hc.2
        obtain ⟨cs', e1, e2, e3⟩ := ih l _ _ r (by simpa using hl) (fun k p' q' hk hk' => hp (k + 1) p' q' (by simpa using hk) (by simpa using hk')) g1 g2 hf
        refine ⟨cs', ?_, e2, e3⟩
        obtain ⟨pi, pv⟩ := p
        simp only [Instr.fill, h1]
        rw [if_neg]
        · exact e1
        · simp only at h2
          rw [← h2, hc.1, ← hz]
          simp
          exact hc.2
      · cases hf

section
variable {P : Program} {Γ : Glob} {E : Nat → Prop} {w : World} {μ κ : Nat → Nat} {h : Heap} {n : Nat} {env : Nat → Option AV} {a : Act}
  {dst : Option Tmp} {type : TypeId} {pos : String} {after : Array Edge} {guard : Option (Nat × Bool)} {ao : AOp} {v : AV}

theorem run_mapM_array {α β : Type} (f : α → Sem β) (xs : Array α) (ys : List β) (w : World) (h1 : ys.length = xs.size) (h2 : ∀ (i : Nat) (x : α), xs[i]? = some x → ∃ y, ys[i]? = some y ∧ (f x).run P w = .ok y w) :
    (xs.mapM f).run P w = .ok ys.toArray w := by
  rw [Array.mapM_eq_mapM_toList]
  have key : ∀ (l : List α) (ys : List β), ys.length = l.length → (∀ (i : Nat) (x : α), l[i]? = some x → ∃ y, ys[i]? = some y ∧ (f x).run P w = .ok y w) → (l.mapM f).run P w = .ok ys w := by
    intro l
    induction l with
    | nil => intro ys hl _; have : ys = [] := List.eq_nil_of_length_eq_zero hl; subst this; rfl
    | cons x l ih =>
      intro ys hl hg
      cases ys with
      | nil => simp at hl
      | cons y ys =>
        obtain ⟨y', hy', hr⟩ := hg 0 x rfl
        simp only [List.getElem?_cons_zero, Option.some.injEq] at hy'
        subst hy'
        simp only [List.mapM_cons, Sem.run_bind, hr, Result.andThen_ok]
        rw [ih ys (by simpa using hl) (fun i x hi => by simpa using hg (i + 1) x (by simpa using hi))]
        rfl
  rw [Sem.run_map, key xs.toList ys (by simpa using h1) (fun i x hi => h2 i x (by simpa using hi))]
  rfl

variable (H : HeapOK Γ E w μ κ h n) (HE : EnvOK (ctx E w μ κ h n) env a)
include H HE

/-- the parts of a value that is built -/
theorem parts_ok {β : Type} {parts : List (Nat × Operand)} {ps : List β} {l : List (Nat × Nat × List Cel)} {g : Nat × Operand → Option β} {off sz : β → Nat} {arg : β → Arg} {place : Nat → Option (Nat × Nat)}
    (hc : parts.mapM g = some ps) (hg : ∀ p b, g p = some b → place p.1 = some (off b, sz b) ∧ ∃ t, compArg P t p.2 = some (arg b))
    (hl : ps.mapM (fun b => (cellsOfArg Γ env (arg b)).map fun l => (off b, sz b, l)) = some l) :
    (parts.map fun p => (p.1, a.eval p.2)).length = l.length ∧ ∀ (k : Nat) p q, (parts.map fun p => (p.1, a.eval p.2))[k]? = some p → l[k]? = some q →
      place p.1 = some (q.1, q.2.1) ∧ q.2.2.length = p.2.cells.size ∧ ∀ (i : Nat) (x : Cel), q.2.2[i]? = some x → RelC (ctx E w μ κ h n) x (p.2.cells.getD i undef) := by
  obtain ⟨h1, h2⟩ := mapM_get hc
  obtain ⟨h3, h4⟩ := mapM_get hl
  refine ⟨by simp; omega, fun k p q hp hq => ?_⟩
  rw [List.getElem?_map] at hp
  obtain ⟨p0, hp0, rfl⟩ := Option.map_eq_some_iff.1 hp
  obtain ⟨b, hb, hgb⟩ := h2 k p0 hp0
  obtain ⟨q', hq', hf⟩ := h4 k b hb
  rw [hq] at hq'
  cases hq'
  obtain ⟨lq, hlq, rfl⟩ := Option.map_eq_some_iff.1 hf
  obtain ⟨g1, t, g2⟩ := hg _ _ hgb
  have := cells_ok H HE g2 hlq
  exact ⟨g1, this.1, this.2⟩

theorem build_ok {t : TypeId} {parts : Array (Nat × Operand)} (hc : compOp P ⟨dst, .build t parts, type, pos, after, guard⟩ = some ao) (hs : step1 Γ ⟨env, h, n⟩ ao = some v) :
    Look0 P (ctx E w μ κ h n) a ⟨dst, .build t parts, type, pos, after, guard⟩ v := by
  simp only [compOp, bind, Option.bind_eq_some_iff] at hc
  obtain ⟨z, hz, hc⟩ := hc
  obtain ⟨ti, zv, hti, hzv, hzl, hzr⟩ := zeroCels_ok (K := ctx E w μ κ h n) hz
  have hparts : (parts.map fun (p : Nat × Operand) => (p.1, a.eval p.2)).toList = parts.toList.map fun p => (p.1, a.eval p.2) := by simp
  split at hc
  · rename_i fs hu
    simp only [Option.bind_eq_some_iff] at hc
    obtain ⟨ps, hps, hc⟩ := hc
    split at hc
    · rename_i hall
      simp only [Option.some.injEq] at hc
      subst hc
      simp only [step1, bind, Option.bind_eq_some_iff] at hs
      obtain ⟨l, hl, hs⟩ := hs
      obtain ⟨r, hr, rfl⟩ := Option.map_eq_some_iff.1 hs
      have hsizes : ∃ sz : List Nat, sz.length = fs.size ∧ ∀ (i : Nat) (f : Field), fs[i]? = some f → ∃ m, sz[i]? = some m ∧ sizeT P f.type = some m := by
        refine ⟨fs.toList.map fun f => (sizeT P f.type).getD 0, by simp, fun i f hf => ?_⟩
        have hm : f ∈ fs.toList := by
          have : fs.toList[i]? = some f := by simpa using hf
          exact List.mem_of_getElem? this
        have := List.all_eq_true.1 hall f hm
        obtain ⟨m, hm'⟩ := Option.isSome_iff_exists.1 this
        refine ⟨m, ?_, hm'⟩
        rw [List.getElem?_map, Array.getElem?_toList, hf]
        simp [hm']
      obtain ⟨sz, hszl, hsz⟩ := hsizes
      have hgood := parts_ok (P := P) (off := fun b : Nat × Nat × Arg => b.1) (sz := fun b => b.2.1) (arg := fun b => b.2.2) (place := fun i => ((fs.toList.zip sz).map fun q => (q.1.offset, q.2))[i]?) H HE hps (fun p b hb => by
        obtain ⟨i, x⟩ := p
        simp only [Option.bind_eq_some_iff, Option.some.injEq] at hb
        obtain ⟨f, hf, m, hm, y, hy, rfl⟩ := hb
        obtain ⟨m', hm', hs'⟩ := hsz i f hf
        rw [hm] at hs'
        cases hs'
        refine ⟨?_, f.type, hy⟩
        have hf' : fs.toList[i]? = some f := by simpa using hf
        show ((fs.toList.zip sz).map fun q => (q.1.offset, q.2))[i]? = _
        rw [List.getElem?_map, List.getElem?_zip_eq_some (z := (f, m)) |>.2 ⟨hf', hm'⟩]
        rfl) hl
      obtain ⟨cs', e1, e2, e3⟩ := fillC_ok _ _ z zv.cells r hgood.1 hgood.2 hzl hzr hr
      refine ⟨.agg cs', .agg e2 e3, fun w' _ => ?_⟩
      have hm := run_mapM_array (P := P) (fun f : Field => (do pure (f.offset, ← sizeOf f.type) : Sem (Nat × Nat))) fs ((fs.toList.zip sz).map fun q => (q.1.offset, q.2)) w' (by simp [hszl]) (fun i f hf => by
        obtain ⟨m, hm, hs'⟩ := hsz i f hf
        have hf' : fs.toList[i]? = some f := by simpa using hf
        refine ⟨(f.offset, m), ?_, ?_⟩
        · rw [List.getElem?_map, List.getElem?_zip_eq_some (z := (f, m)) |>.2 ⟨hf', hm⟩]
          rfl
        · simp only [Sem.run_bind, run_sizeOf' hs', Result.andThen_ok, Sem.run_pure])
      simp only [execOp, Instr.build, Sem.run_bind, zeroValue, run_typeInfo' hti, hzv, Result.andThen_ok, Sem.run_pure, run_underlying hu, hm]
      have e1' : Instr.fill (fun x => (((fs.toList.zip sz).map fun q => (q.1.offset, q.2)).toArray)[x]?) zv.cells (parts.map fun (p : Nat × Operand) => (p.1, a.eval p.2)).toList = some cs' := by
        rw [hparts, ← e1]
        congr 1
        funext i
        simp
      rw [e1']
      simp only [Sem.run_pure, Result.andThen_ok]
    · cases hc
  · rename_i m e hu
    simp only [Option.bind_eq_some_iff, Option.some.injEq] at hc
    obtain ⟨sz, hsz, ps, hps, rfl⟩ := hc
    simp only [step1, bind, Option.bind_eq_some_iff] at hs
    obtain ⟨l, hl, hs⟩ := hs
    obtain ⟨r, hr, rfl⟩ := Option.map_eq_some_iff.1 hs
    have hgood := parts_ok (P := P) (off := fun b : Nat × Nat × Arg => b.1) (sz := fun b => b.2.1) (arg := fun b => b.2.2) (place := fun i => some (i * sz, sz)) H HE hps (fun p b hb => by
      obtain ⟨i, x⟩ := p
      simp only [Option.bind_eq_some_iff, Option.some.injEq] at hb
      obtain ⟨y, hy, rfl⟩ := hb
      exact ⟨rfl, e, hy⟩) hl
    obtain ⟨cs', e1, e2, e3⟩ := fillC_ok (place := fun i => some (i * sz, sz)) _ _ z zv.cells r hgood.1 hgood.2 hzl hzr hr
    refine ⟨.agg cs', .agg e2 e3, fun w' _ => ?_⟩
    simp only [execOp, Instr.build, Sem.run_bind, zeroValue, run_typeInfo' hti, hzv, Result.andThen_ok, Sem.run_pure, run_underlying hu, run_sizeOf' hsz]
    rw [hparts, e1]
    simp only [Sem.run_pure, Result.andThen_ok]
  · cases hc

end
end Go.Proofs.YtolmbcngghkfiaaDoorBv
