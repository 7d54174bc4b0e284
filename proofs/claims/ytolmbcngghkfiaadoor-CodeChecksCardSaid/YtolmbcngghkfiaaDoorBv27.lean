/- The calculus: the library's contracts, met: texts searched and cut; package variables that may hold whatever they like. It proves nothing of any program. -/
import Derived.Test.YtolmbcngghkfiaaDoorBv26
import Derived.Shelf.Strings.Split
import Derived.Shelf.Strings.Search3
import Derived.Shelf.Vars
import Derived.Handed
namespace Go.Proofs.YtolmbcngghkfiaaDoorBv
open Go
set_option linter.unusedVariables false
set_option linter.unusedSimpArgs false

/-! ### a package variable of the library's that no one lists -/
theorem glob_int {P : Program} {W : World} {g : Nat} {t : TypeId} {zero : Array Value} {k : IntKind} (h : W.ShapedOpen P) (hg : g < P.globals.size)
    (h0 : ((begin P (fun _ _ => 0) default).world.heap[g]?).bind Obj.row? = some (zero, t)) (hz : zero.size = 1) (hb : P.buildable t = true) (hc : P.cellTypes P.depth t = some [t]) (hu : P.underlying t = some (.int k)) :
    ∃ m, GlobOK (entry W) g [.val (.int k m)] := by
  obtain ⟨m, hm⟩ := cell_of_shapedOpen_int h hg h0 hz hb hc hu
  obtain ⟨cs, hh, hs, _⟩ := h.1 g zero t hg h0
  refine ⟨m, .rop (fun _ => .int k m) (fun _ => entry_S _ (Array.getElem?_eq_some_iff.1 hh).1) (fun j x hx => ?_) (fun j x hx => ?_), fun _ => ⟨cs, t, _, hh, by rw [hs, hz]; rfl⟩⟩
  · cases j with
    | zero => exact hm
    | succ j => simp at hx
  · cases j with
    | zero => simp at hx; subst hx; exact .val rfl
    | succ j => simp at hx
theorem glob_cell {Γ : Glob} {E : Nat → Prop} {w : World} {μ κ : Nat → Nat} {h : Heap} {n : Nat} (H : HeapOK Γ E w μ κ h n) {g : Nat} {k : IntKind} {m : Int} (hc : Γ g = [.val (.int k m)]) : w.cell? ⟨g, 0, none⟩ = some (.int k m) := by
  obtain ⟨h1, _⟩ := H.glob g
  rw [hc] at h1
  cases h1 with
  | rop f hs hcell hrel =>
    have e1 := hcell 0 _ rfl
    have e2 := relC_vv (hrel 0 _ rfl)
    rw [e2] at e1
    exact e1
theorem returns_shaped_and {H : Type} {enc : TypeId × Value → H} {a : Assume} {C : Checked} {os : Os} {f : FuncId} {fn : Func} {s : ChangeSpec} {conds : List PathCond} {apart fresh handsOn again : Bool} {X : World → Array Value → Prop}
    (hX : ∀ (w w' : World) (args : Array Value), w.heap = w'.heap → X w args → X w' args)
    (own : ownKnob C.prog.godebug = none) (started : os.Started) (noInit : C.prog.inits.idxOf? f = none) (hfn : C.prog.funcs[f]? = some fn)
    (witness : ∃ (w : World) (tape : Tape) (i : Input), w.os = os ∧ (w.forCall tape i).Shaped C.prog ∧ i.vars = [] ∧ Input.okWide C.prog (w.forCall tape i) .any w.heap.size f i ∧
      ((s.pre enc C.prog fn conds apart (w.forCall tape i).memory i.args ∧ X (w.forCall tape i).memory i.args) ∧ sizedMet enc C.prog fn (OpenSpec.ofChange s) apart (w.forCall tape i).memory i.args) ∧ a.holds C.prog (lone (Frame.enter C.prog f i.args .normal) [] (w.forCall tape i)))
    (contract : ∀ (W : World) (base : Nat) (args : Array Value) (ds gs : List (DataW H)) (before : List MemPlace),
      (∀ (j : Nat) t v, fn.params[j]? = some t → args[j]? = some v → Value.okWide C.prog W .any base t v) →
      DataW.Whole enc C.prog fn.params.toList s.vars apart W args.toList ds gs before →
      conds.all (PathCond.test C.prog ⟨fn.params.toList, ds, s.plain.varTypes C.prog, gs⟩) = true →
      (DataW.weightsEach C.prog (fn.params.toList ++ s.plain.varTypes C.prog) (ds ++ gs)).all (· ≤ reachBytes) = true → X W args → W.ShapedOpen C.prog →
      a.holds C.prog (lone (Frame.enter C.prog f args .normal) [] W) →
      Calls C.prog f args W fun e W' => ∃ v, e = .returned v ∧ s.post enc C.prog fn apart fresh handsOn again W args v W') :
    ReturnsInHanded a C os f .any (fun w args => (s.pre enc C.prog fn conds apart w args ∧ X w args) ∧ sizedMet enc C.prog fn (OpenSpec.ofChange s) apart w args) (s.post enc C.prog fn apart fresh handsOn again) := by
  refine returnsInHanded_of_calls own started noInit witness ?_
  intro w tape i _ hsh _ hok hpre hholds
  obtain ⟨_, _, _, fn', hfn', _, _, _, _, hval⟩ := hok
  have e : fn' = fn := Option.some.inj (hfn'.symm.trans hfn)
  subst e
  obtain ⟨⟨⟨ds, gs, before, hw, hc⟩, hx⟩, hz⟩ := hpre
  have hw' := DataW.Whole.of_heap (w' := w.forCall tape i) (by rfl) hw
  refine (contract (w.forCall tape i) w.heap.size i.args ds gs before hval hw' hc (hz.weights hw) (hX _ _ _ (by rfl) hx) hsh hholds).mono fun e W' ⟨v, he, hp⟩ => ?_
  subst he
  exact ChangeSpec.post_blind hp

/-! ### strings.Contains, of one byte -/
def contains1? (s t : List UInt8) : Option Bool := match t with
  | [c] => some (decide (0 ≤ Lib.indexByte s c))
  | _ => none
theorem contains1_ok {P : Program} {ρ : Shelf.Ren} {Γ : Glob} (L : Lays.n144 P ρ) {s t : List UInt8} {r : Bool} (h : contains1? s t = some r) :
    CPure P Γ (ρ.f 144) [.c (.str s), .c (.str t)] (.c (.val (.bool r))) := by
  unfold contains1? at h
  split at h
  · rename_i c
    cases h
    refine cpure_of fun E w μ κ cargs H hsz hrel => ?_
    obtain ⟨b, rfl, e0⟩ := relS (hrel 0 _ rfl)
    obtain ⟨⟨⟨l⟩⟩, e2, e1⟩ := relS (hrel 1 _ rfl)
    have e2 : l = [c] := e2
    subst e2
    rw [arr2 hsz, e0, e1]
    refine (Any.strings_Contains_one L b c w).mono ?_
    rintro e w' ⟨rfl, rfl⟩
    exact ⟨_, rfl, fun K => .c (.val rfl), same_world⟩
  · cases h
/-! ### strings.Split -/
def splitL (s sep : List UInt8) : List (List UInt8) := (Lib.splitB ⟨sep.toArray⟩ 0 (Lib.countB ⟨s.toArray⟩ ⟨sep.toArray⟩) ⟨s.toArray⟩).map (·.data.toList)
def split? (s sep : List UInt8) : Option (List (List UInt8)) := if s.length < 4294967281 ∧ 1 ≤ sep.length then some (splitL s sep) else none
theorem new_row0 {Γ : Glob} {E : Nat → Prop} {w : World} {μ κ : Nat → Nat} (H : HeapOK Γ E w μ κ (fun _ => none) 0) {T : TypeId} {C : Array Value} {es : List (List Cel)} {sz : Nat} (hfz : Fz sz C.size es.length (0, 0)) (hsz : C.size = es.length * sz)
    (hc : ∀ K (i : Nat) (e : List Cel), es[i]? = some e → e.length = sz ∧ ∀ (j : Nat) (x : Cel), e[j]? = some x → ∃ v, C[i * sz + j]? = some v ∧ RelC K x v) :
    ∃ μ' κ', HeapOK Γ E (w.alloc (.cells C T)) μ' κ' (upd (fun _ => none) 0 (lstB false sz es)) 1 ∧ From E (ctx E w μ κ (fun _ => none) 0) (ctx E (w.alloc (.cells C T)) μ' κ' (upd (fun _ => none) 0 (lstB false sz es)) 1) ∧
      RelV (ctx E (w.alloc (.cells C T)) μ' κ' (upd (fun _ => none) 0 (lstB false sz es)) 1) (lstV false 0 sz es.length) (.slice (some ⟨w.heap.size, 0, none⟩) es.length es.length) := by
  refine ⟨upd μ 0 w.heap.size, upd κ 0 es.length, H.alloc _ (.cells sz es) es.length ?_, alloc_le H _ (.cells sz es) es.length, ?_⟩
  · refine ⟨C, T, (0, 0), ?_, by show Fz sz C.size (upd κ 0 es.length 0) (0, 0); rw [upd_same]; exact hfz, ?_, ?_, fun i e he => hc _ i e he⟩
    · show (w.alloc (.cells C T)).heap[upd μ 0 w.heap.size 0]? = _
      rw [upd_same, alloc_heap, if_pos rfl]
    · show es.length ≤ upd κ 0 es.length 0
      rw [upd_same]; exact Nat.le_refl _
    · show upd κ 0 es.length 0 * sz ≤ C.size
      rw [upd_same, hsz]; exact Nat.le_refl _
  · have r := RelC.own (K := ctx E (w.alloc (.cells C T)) (upd μ 0 w.heap.size) (upd κ 0 es.length) (upd (fun _ => none) 0 (lstB false sz es)) 1) (b := 0) (sz := sz) (off := 0) (len := es.length) (m := es.length) (cap := es.length) (o := 0) (Nat.lt_succ_self 0) (Nat.le_refl _) (Nat.le_refl _) (.inl (by simp)) (by show 0 + es.length ≤ upd κ 0 es.length 0; rw [upd_same]; omega)
    have e : (ctx E (w.alloc (.cells C T)) (upd μ 0 w.heap.size) (upd κ 0 es.length) (upd (fun _ => none) 0 (lstB false sz es)) 1).μ 0 = w.heap.size := upd_same μ 0 w.heap.size
    rw [e] at r
    exact .c r
theorem split_ok {P : Program} {ρ : Shelf.Ren} {Γ : Glob} {m : Int} (L : Lays.n146 P ρ) (hi9 : (P.info? (ρ.t 9)).map (fun i => (i.zero, i.size, i.bytes)) = some (some (.string ByteArray.empty), 1, 16)) (hc : Γ (ρ.g 1) = [.val (.int .i64 m)]) {s sep : List UInt8} {r : List (List UInt8)} (h : split? s sep = some r) :
    ACalls P Γ (ρ.f 146) [.c (.str s), .c (.str sep)] (fun _ => none) 0 (fun v h' n' => ∃ z : Bool, (z = true → r = []) ∧ v = lstV z 0 1 r.length ∧ (h' = (upd (fun _ => none) 0 (lstB z 1 (r.map eStr)))) ∧ n' = 1) := by
  unfold split? at h
  split at h
  · rename_i hn
    cases h
    intro E w μ κ cargs H hsz hrel
    obtain ⟨b, hb, e0⟩ := relS (hrel 0 _ rfl)
    obtain ⟨t, ht, e1⟩ := relS (hrel 1 _ rfl)
    have hbs : (⟨s.toArray⟩ : ByteArray) = b := by subst hb; rfl
    have hts : (⟨sep.toArray⟩ : ByteArray) = t := by subst ht; rfl
    have l1 : b.size = s.length := by rw [← hbs]; rfl
    have l2 : t.size = sep.length := by rw [← hts]; rfl
    rw [arr2 hsz, e0, e1]
    refine (Any.strings_Split L hi9 b t m w (by omega) (glob_cell H hc) (by omega)).mono ?_
    rintro e w' ⟨rfl, rfl⟩
    unfold splitL
    rw [hbs, hts]
    have hlen := Lib.splitB_all t (by omega) 0 _ b rfl
    generalize Lib.splitB t 0 (Lib.countB b t) b = l at hlen
    obtain ⟨μ', κ', h1, h2, h3⟩ := new_row0 H (T := ρ.t 9) (C := (l.map Value.string).toArray) (es := (l.map (·.data.toList)).map eStr) (sz := 1) ⟨fun i _ => by simp, fun h => absurd rfl h⟩ (by simp) (fun K i e he => by
      rw [List.getElem?_map, List.getElem?_map] at he
      cases hx : l[i]? with
      | none => rw [hx] at he; cases he
      | some x =>
        rw [hx] at he
        cases he
        refine ⟨rfl, fun j y hy => ?_⟩
        cases j with
        | zero =>
          cases hy
          refine ⟨.string x, ?_, .str rfl⟩
          simp [hx]
        | succ j => simp [eStr] at hy)
    have e2 : ((l.map (·.data.toList)).map eStr).length = Lib.countB b t + 1 := by simp [hlen]
    rw [e2] at h3
    refine ⟨_, _, _, _, μ', κ', rfl, ⟨false, (fun h => by cases h), rfl, rfl, rfl⟩, h1, h2, ?_⟩
    have e3 : (l.map (·.data.toList)).length = Lib.countB b t + 1 := by simp [hlen]
    rw [e3]
    exact h3
  · cases h
end Go.Proofs.YtolmbcngghkfiaaDoorBv
