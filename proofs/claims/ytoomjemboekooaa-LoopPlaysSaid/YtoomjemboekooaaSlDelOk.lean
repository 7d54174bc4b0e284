/- slices.Delete on a list of the call's own, as a contract of the calculus. It proves nothing of any program. -/
import Derived.Test.YtoomjemboekooaaSlDel
namespace Go.Proofs.YtoomjemboekooaaBv
open Go Go.Proofs Go.RowKit
set_option linter.unusedVariables false
set_option linter.unusedSimpArgs false
/-- a list of the call's own is given back as another one: its block under a new name -/
theorem own_renamed {Γ : Glob} {E : Nat → Prop} {w w' : World} {μ κ : Nat → Nat} {n sz len cap : Nat} {A : Blk} {C : Array Value} {T : TypeId} {fr : Nat × Nat} {es : List (List Cel)} (H : HeapOK Γ E w μ κ (upd (fun _ => none) 0 (some A)) n) (hn : 0 < n)
    (hs : w'.heap.size = w.heap.size) (ho : w'.os = w.os) (ht : w'.tape = w.tape) (hu : w'.output = w.output) (hh : ∀ k, k ≠ μ 0 → w'.heap[k]? = w.heap[k]?)
    (hb : w'.heap[μ 0]? = some (.cells C T fr)) (hf : Fz sz C.size (κ 0) fr) (hl : es.length = len) (hcap : len ≤ cap) (hκ : cap ≤ κ 0) (hC : κ 0 * sz ≤ C.size)
    (hc : ∀ K, (∀ x v, RelC (ctx E w μ κ (upd (fun _ => none) 0 (some A)) n) x v → RelC K x v) → ∀ (i : Nat) (e : List Cel), es[i]? = some e → e.length = sz ∧ ∀ (j : Nat) (x : Cel), e[j]? = some x → ∃ v, C[i * sz + j]? = some v ∧ RelC K x v) :
    ∃ μ' κ', HeapOK Γ E w' μ' κ' (upd (fun _ => none) n (some (.cells sz es))) (n + 1) ∧ From E (ctx E w μ κ (upd (fun _ => none) 0 (some A)) n) (ctx E w' μ' κ' (upd (fun _ => none) n (some (.cells sz es))) (n + 1)) ∧
      RelV (ctx E w' μ' κ' (upd (fun _ => none) n (some (.cells sz es))) (n + 1)) (lstV false n sz len) (.slice (some ⟨μ 0, 0, none⟩) len cap) := by
  have hup : upd (upd (fun _ => none) 0 (some A)) 0 (some (.cells sz es)) = (upd (fun _ => none) 0 (some (.cells sz es)) : Heap) := by
    funext b
    unfold upd
    cases b.beq 0 <;> rfl
  have L0 : Ctx.Le (ctx E w μ κ (upd (fun _ => none) 0 (some A)) n) (ctx E w' μ κ (upd (upd (fun _ => none) 0 (some A)) 0 (some (.cells sz es))) n) := by
    rw [hup]
    refine ⟨Nat.le_refl _, fun _ _ => rfl, fun _ _ => rfl, fun k hk => ⟨by show k < w'.heap.size; rw [hs]; exact hk.1, hk.2.1, fun b' y hb' => ?_⟩, fun k hk => hh k (Ne.symm (hk.2.2 0 A (upd_same _ _ _)))⟩
    by_cases e : b' = 0
    · subst e; exact hk.2.2 0 A (upd_same _ _ _)
    · rw [upd_ne _ _ e] at hb'; cases hb'
  obtain ⟨H1, F1⟩ := H.write (w' := w') (b := 0) (x := A) (x' := .cells sz es) (upd_same _ _ _) hs ho ht hu hh
    ⟨C, T, fr, hb, hf, by show es.length ≤ κ 0; omega, hC, hc _ fun x v h => h.mono L0⟩
  rw [hup] at H1 F1 L0
  obtain ⟨H2, F2⟩ := recells (c := κ 0) (sz := sz) (es := es) (b := 0) H1 (upd_same _ _ _) ⟨C, T, fr, hb, hf, by omega, hC, hc _ fun x v h => h.mono L0⟩
  have hup2 : upd (upd (upd (fun _ => none) 0 (some (.cells sz es))) 0 none) n (some (.cells sz es)) = (upd (fun _ => none) n (some (.cells sz es)) : Heap) := by
    funext b
    unfold upd
    cases b.beq n
    · cases b.beq 0 <;> rfl
    · rfl
  rw [hup2] at H2 F2
  refine ⟨_, _, H2, F1.trans F2, ?_⟩
  have r := RelC.own (K := ctx E w' (upd μ n (μ 0)) (upd κ n (κ 0)) (upd (fun _ => none) n (some (.cells sz es))) (n + 1)) (b := n) (sz := sz) (off := 0) (len := len) (m := len) (cap := cap) (o := 0) (Nat.lt_succ_self n) (Nat.le_refl _) hcap (.inl (by simp)) (by show 0 + cap ≤ upd κ n (κ 0) n; rw [upd_same]; omega)
  have e : (ctx E w' (upd μ n (μ 0)) (upd κ n (κ 0)) (upd (fun _ => none) n (some (.cells sz es))) (n + 1)).μ n = μ 0 := upd_same μ n (μ 0)
  rw [e] at r
  exact .c r

def del? {α : Type} (xs : List α) (i j : Int) : Option (List α) := if 0 ≤ i ∧ i < j ∧ j ≤ (xs.length : Int) then some (xs.take i.toNat ++ xs.drop j.toNat) else none
theorem del_some {α : Type} {xs : List α} {i j : Int} (h0 : 0 ≤ i) (h1 : i < j) (h2 : j ≤ (xs.length : Int)) : del? xs i j = some (xs.take i.toNat ++ xs.drop j.toNat) := if_pos ⟨h0, h1, h2⟩
theorem arr3 {a : Array Value} (h : a.size = 3) : a = #[a.getD 0 undef, a.getD 1 undef, a.getD 2 undef] := by
  obtain ⟨l⟩ := a
  match l, h with
  | [x, y, z], _ => rfl
theorem del_ok {P : Program} {Γ : Glob} {f : FuncId} {α : Type} {e : α → List Cel} {sz : Nat} (he : ∀ x, (e x).length = sz) (hsz : 0 < sz)
    (walk : ∀ (blk n cap i j : Nat) (C : Array Value) (T : TypeId) (fr : Nat × Nat) (w : World), w.heap[blk]? = some (.cells C T fr) → (∀ k, k < C.size → w.frozen? ⟨blk, k, none⟩ = false) → cap * sz ≤ C.size → n ≤ cap → i < j → j ≤ n →
      (∀ k, k < n * sz → ∀ v, C[k]? = some v → v.oneCell' = true) →
      Calls P f #[.slice (some ⟨blk, 0, none⟩) n cap, .int .i64 i, .int .i64 j] w fun e w' => e = .returned (.slice (some ⟨blk, 0, none⟩) (i + (n - j)) cap) ∧
        ∃ vs, w' = (w.drew.setCells blk (i * sz) ((C.toList.drop (j * sz)).take ((n - j) * sz))).setCells blk ((i + (n - j)) * sz) vs)
    {xs r : List α} {z : Bool} {i j : Int} (hz : z = true → xs = []) (h : del? xs i j = some r) :
    ACalls P Γ f [lstV z 0 sz xs.length, I i, I j] (upd (fun _ => none) 0 (lstB z sz (xs.map e))) 1 (fun v h' n' => ∃ z' : Bool, (z' = true → r = []) ∧ v = lstV z' 1 sz r.length ∧ (h' = (upd (fun _ => none) 1 (lstB z' sz (r.map e)))) ∧ n' = 2) := by
  unfold del? at h
  split at h
  · rename_i hn
    cases h
    obtain ⟨hi0, hij, hjn⟩ := hn
    cases z with
    | true =>
      have := hz rfl
      subst this
      simp at hjn
      omega
    | false =>
      intro E w μ κ cargs H hszs hrel
      have h0 := hrel 0 _ rfl
      have e1 := relI (hrel 1 _ rfl)
      have e2 := relI (hrel 2 _ rfl)
      rw [arr3 hszs, e1, e2]
      generalize cargs.getD 0 undef = v0 at h0
      obtain ⟨i, rfl⟩ : ∃ k : Nat, i = k := ⟨i.toNat, by omega⟩
      obtain ⟨j, rfl⟩ : ∃ k : Nat, j = k := ⟨j.toNat, by omega⟩
      have hij : i < j := by omega
      have hjn : j ≤ xs.length := by omega
      cases h0 with
      | c h0 =>
        cases h0 with
        | @own _ _ _ _ _ _ cap o hb hl hm ho hk =>
          have ho' : o = 0 := by
            rcases ho with ho | ho
            · simpa using ho
            · have := hm; omega
          subst ho'
          obtain ⟨C, T, fr, hb1, hfz, hes, hC, hcel⟩ := H.blk 0 (.cells sz (xs.map e)) (upd_same _ _ _)
          replace hb1 : w.heap[μ 0]? = some (.cells C T fr) := hb1
          replace hC : κ 0 * sz ≤ C.size := hC
          have hk' : cap ≤ κ 0 := by have : 0 + cap ≤ κ 0 := hk; omega
          have hcC : cap * sz ≤ C.size := Nat.le_trans (Nat.mul_le_mul_right _ hk') hC
          have hn : xs.length ≤ cap := hm
          have hnC : xs.length * sz ≤ C.size := Nat.le_trans (Nat.mul_le_mul_right _ hn) hcC
          have row : ∀ (k : Nat) (x : α), xs[k]? = some x → ∀ (q : Nat) (y : Cel), (e x)[q]? = some y → ∃ v, C[k * sz + q]? = some v ∧ RelC (ctx E w μ κ (upd (fun _ => none) 0 (some (.cells sz (xs.map e)))) 1) y v := fun k x hx q y hy =>
            (hcel k (e x) (by rw [List.getElem?_map, hx]; rfl)).2 q y hy
          refine (walk (μ 0) xs.length cap i j C T fr w hb1 (fun k hk => block_free hb1 hfz.1 k hk) hcC hn hij hjn (fun k hk v hv => ?_)).mono ?_
          · have hd : k / sz < xs.length := (Nat.div_lt_iff_lt_mul hsz).2 hk
            have hmod : k % sz < sz := Nat.mod_lt _ hsz
            have hq : k % sz < (e xs[k / sz]).length := by rw [he]; exact hmod
            obtain ⟨v', hv', hr⟩ := row (k / sz) _ (List.getElem?_eq_getElem hd) (k % sz) _ (List.getElem?_eq_getElem hq)
            rw [Nat.mul_comm, Nat.div_add_mod] at hv'
            rw [hv] at hv'
            cases hv'
            exact one_oneCell hr.one
          · rintro ed w' ⟨rfl, vs, rfl⟩
            obtain ⟨C1, a1, a2, a3⟩ := setCells_row (μ 0) T fr ((C.toList.drop (j * sz)).take ((xs.length - j) * sz)) (i * sz) w.drew C hb1
            obtain ⟨C2, b1, b2, b3⟩ := setCells_row (μ 0) T fr vs ((i + (xs.length - j)) * sz) _ C1 a1
            have hmv : (xs.length - j) * sz + j * sz = xs.length * sz := by rw [← Nat.add_mul]; congr 1; omega
            have hll : ((C.toList.drop (j * sz)).take ((xs.length - j) * sz)).length = (xs.length - j) * sz := by
              have hCl : C.toList.length = C.size := Array.length_toList
              rw [List.length_take, List.length_drop, hCl]; omega
            have hrl : (xs.take i ++ xs.drop j).length = i + (xs.length - j) := by rw [List.length_append, List.length_take, List.length_drop]; omega
            have r1 := setCells_rest (μ 0) ((C.toList.drop (j * sz)).take ((xs.length - j) * sz)) (i * sz) w.drew
            have r2 := setCells_rest (μ 0) vs ((i + (xs.length - j)) * sz) (w.drew.setCells (μ 0) (i * sz) ((C.toList.drop (j * sz)).take ((xs.length - j) * sz)))
            obtain ⟨μ', κ', H2, F2, R2⟩ := own_renamed (sz := sz) (len := i + (xs.length - j)) (cap := cap) (es := (xs.take i ++ xs.drop j).map e) (C := C2) (T := T) (fr := fr) H (Nat.succ_pos 0)
              (by rw [setCells_size, setCells_size]; rfl) (r2.1.trans r1.1) (r2.2.1.trans r1.2.1) (r2.2.2.trans r1.2.2)
              (fun k hk => by rw [setCells_other _ _ _ _ k hk, setCells_other _ _ _ _ k hk]; rfl) b1 (by rw [b2, a2]; exact hfz) (by rw [List.length_map, hrl]) (by omega) hk' (by rw [b2, a2]; exact hC)
              (fun K hK k d hd => by
                rw [List.getElem?_map] at hd
                obtain ⟨x, hx, rfl⟩ := Option.map_eq_some_iff.1 hd
                refine ⟨he x, fun q y hy => ?_⟩
                have hq : q < sz := by rw [← he x]; exact (List.getElem?_eq_some_iff.1 hy).1
                have hkr : k < i + (xs.length - j) := by rw [← hrl]; exact (List.getElem?_eq_some_iff.1 hx).1
                have hkq : k * sz + q < (i + (xs.length - j)) * sz := by
                  have : (k + 1) * sz ≤ (i + (xs.length - j)) * sz := Nat.mul_le_mul_right _ hkr
                  rw [Nat.add_mul, Nat.one_mul] at this
                  omega
                have hrs : (i + (xs.length - j)) * sz ≤ xs.length * sz := Nat.mul_le_mul_right _ (by omega)
                rw [b3 _ (by rw [a2]; omega), if_neg (by omega), a3 _ (by omega), hll]
                by_cases hki : k < i
                · have hkq2 : k * sz + q < i * sz := by
                    have : (k + 1) * sz ≤ i * sz := Nat.mul_le_mul_right _ hki
                    rw [Nat.add_mul, Nat.one_mul] at this
                    omega
                  rw [if_neg (by omega)]
                  rw [List.getElem?_append_left (by rw [List.length_take]; omega), List.getElem?_take, if_pos hki] at hx
                  obtain ⟨v, hv, hr⟩ := row k x hx q y hy
                  exact ⟨v, hv, hK _ _ hr⟩
                · have hki : i ≤ k := by omega
                  obtain ⟨d, rfl⟩ : ∃ d, k = i + d := ⟨k - i, by omega⟩
                  have hin : i * sz ≤ (i + d) * sz + q := by rw [Nat.add_mul]; omega
                  rw [List.getElem?_append_right (by rw [List.length_take]; omega), List.length_take, show i + d - min i xs.length = d by omega, List.getElem?_drop] at hx
                  obtain ⟨v, hv, hr⟩ := row (j + d) x hx q y hy
                  have e3 : (i + (xs.length - j)) * sz = i * sz + (xs.length - j) * sz := Nat.add_mul _ _ _
                  have e4 : (i + d) * sz = i * sz + d * sz := Nat.add_mul _ _ _
                  have e5 : (j + d) * sz = j * sz + d * sz := Nat.add_mul _ _ _
                  rw [if_pos ⟨hin, by omega⟩, List.getElem?_take, if_pos (by omega), List.getElem?_drop, Array.getElem?_toList, show j * sz + ((i + d) * sz + q - i * sz) = (j + d) * sz + q by omega]
                  exact ⟨v, hv, hK _ _ hr⟩)
            refine ⟨_, _, _, _, μ', κ', rfl, ⟨false, (fun h => by cases h), rfl, rfl, rfl⟩, ?_, ?_, ?_⟩
            · exact H2
            · exact F2
            · show RelV _ (lstV false 1 sz (xs.take i ++ xs.drop j).length) _
              rw [hrl]; exact R2
  · cases h
end Go.Proofs.YtoomjemboekooaaBv
