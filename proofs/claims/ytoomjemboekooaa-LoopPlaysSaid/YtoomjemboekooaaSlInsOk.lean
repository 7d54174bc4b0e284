/- slices.Insert of one element into a list of the call's own: towards its contract. It proves nothing of any program. -/
import Derived.Test.YtoomjemboekooaaSlDelOk
namespace Go.Proofs.YtoomjemboekooaaBv
open Go Go.Proofs Go.RowKit
set_option linter.unusedVariables false
set_option linter.unusedSimpArgs false
/-- rows of sz cells each, one behind the other in L -/
def RowsIn (K : Ctx) (sz : Nat) (es : List (List Cel)) (L : List Value) : Prop := ∀ (k : Nat) (d : List Cel), es[k]? = some d → d.length = sz ∧ ∀ (q : Nat) (y : Cel), d[q]? = some y → ∃ v, L[k * sz + q]? = some v ∧ RelC K y v
theorem RowsIn.nil {K : Ctx} {sz : Nat} {L : List Value} : RowsIn K sz [] L := fun k d h => by cases h
theorem RowsIn.append {K : Ctx} {sz : Nat} {es1 es2 : List (List Cel)} {L1 L2 : List Value} (h1 : RowsIn K sz es1 L1) (h2 : RowsIn K sz es2 L2) (hl : L1.length = es1.length * sz) : RowsIn K sz (es1 ++ es2) (L1 ++ L2) := fun k d hd => by
  by_cases hk : k < es1.length
  · rw [List.getElem?_append_left hk] at hd
    obtain ⟨a, b⟩ := h1 k d hd
    refine ⟨a, fun q y hy => ?_⟩
    obtain ⟨v, hv, hr⟩ := b q y hy
    exact ⟨v, by rw [List.getElem?_append_left (List.getElem?_eq_some_iff.1 hv).1]; exact hv, hr⟩
  · have hk : es1.length ≤ k := by omega
    rw [List.getElem?_append_right hk] at hd
    obtain ⟨a, b⟩ := h2 _ d hd
    refine ⟨a, fun q y hy => ?_⟩
    obtain ⟨v, hv, hr⟩ := b q y hy
    have e : k * sz = L1.length + (k - es1.length) * sz := by
      rw [hl, ← Nat.add_mul]; congr 1; omega
    exact ⟨v, by rw [List.getElem?_append_right (by omega), show k * sz + q - L1.length = (k - es1.length) * sz + q by omega]; exact hv, hr⟩
theorem RowsIn.take {K : Ctx} {sz : Nat} {es : List (List Cel)} {L : List Value} (h : RowsIn K sz es L) (i : Nat) : RowsIn K sz (es.take i) (L.take (i * sz)) := fun k d hd => by
  rw [List.getElem?_take] at hd
  split at hd
  · rename_i hk
    obtain ⟨a, b⟩ := h k d hd
    refine ⟨a, fun q y hy => ?_⟩
    obtain ⟨v, hv, hr⟩ := b q y hy
    have hq : q < sz := by rw [← a]; exact (List.getElem?_eq_some_iff.1 hy).1
    have : (k + 1) * sz ≤ i * sz := Nat.mul_le_mul_right _ hk
    rw [Nat.add_mul, Nat.one_mul] at this
    exact ⟨v, by rw [List.getElem?_take, if_pos (by omega)]; exact hv, hr⟩
  · cases hd
theorem RowsIn.drop {K : Ctx} {sz : Nat} {es : List (List Cel)} {L : List Value} (h : RowsIn K sz es L) (i : Nat) : RowsIn K sz (es.drop i) (L.drop (i * sz)) := fun k d hd => by
  rw [List.getElem?_drop] at hd
  obtain ⟨a, b⟩ := h _ d hd
  refine ⟨a, fun q y hy => ?_⟩
  obtain ⟨v, hv, hr⟩ := b q y hy
  rw [Nat.add_mul, Nat.add_assoc] at hv
  exact ⟨v, by rw [List.getElem?_drop]; exact hv, hr⟩
theorem RowsIn.mono {K K' : Ctx} {sz : Nat} {es : List (List Cel)} {L : List Value} (h : RowsIn K sz es L) (hK : ∀ x v, RelC K x v → RelC K' x v) : RowsIn K' sz es L := fun k d hd =>
  ⟨(h k d hd).1, fun q y hy => by obtain ⟨v, hv, hr⟩ := (h k d hd).2 q y hy; exact ⟨v, hv, hK _ _ hr⟩⟩
/-- a world that has grown, and a new block in it, under the name n -/
theorem new_grownN {Γ : Glob} {E : Nat → Prop} {w w' : World} {μ κ : Nat → Nat} {n g cap sz : Nat} {C : Array Value} {T : TypeId} {es : List (List Cel)} (H : HeapOK Γ E w μ κ (fun _ => none) n) (hB : RowKit.Below w.heap.size w w') (hg : w.heap.size ≤ g)
    (hb : w'.heap[g]? = some (.cells C T (0, 0))) (hcap : es.length ≤ cap) (hcm : cap ≤ maxLen) (hC : cap * sz ≤ C.size)
    (hc : ∀ K, (∀ x v, RelC (ctx E w μ κ (fun _ => none) n) x v → RelC K x v) → ∀ (i : Nat) (e : List Cel), es[i]? = some e → e.length = sz ∧ ∀ (j : Nat) (x : Cel), e[j]? = some x → ∃ v, C[i * sz + j]? = some v ∧ RelC K x v) :
    HeapOK Γ E w' (upd μ n g) (upd κ n cap) (upd (fun _ => none) n (some (.cells sz es))) (n + 1) ∧ From E (ctx E w μ κ (fun _ => none) n) (ctx E w' (upd μ n g) (upd κ n cap) (upd (fun _ => none) n (some (.cells sz es))) (n + 1)) ∧
      RelV (ctx E w' (upd μ n g) (upd κ n cap) (upd (fun _ => none) n (some (.cells sz es))) (n + 1)) (lstV false n sz es.length) (.slice (some ⟨g, 0, none⟩) es.length cap) := by
  have hh := hB.block
  have u : ∀ b y, upd (fun _ => none : Heap) n (some (.cells sz es)) b = some y → b = n ∧ y = .cells sz es := fun b y h => by
    by_cases e : b = n
    · subst e; rw [upd_same] at h; cases h; exact ⟨rfl, rfl⟩
    · rw [upd_ne _ _ e] at h; cases h
  have F : From E (ctx E w μ κ (fun _ => none) n) (ctx E w' (upd μ n g) (upd κ n cap) (upd (fun _ => none) n (some (.cells sz es))) (n + 1)) := by
    refine ⟨⟨Nat.le_succ _, fun b h => upd_ne _ _ (Nat.ne_of_lt h), fun b h => upd_ne _ _ (Nat.ne_of_lt h), fun k hk => ⟨Nat.lt_of_lt_of_le hk.1 hB.size, hk.2.1, fun b y hb => ?_⟩, fun k hk => hh k hk.1⟩, hB.size, hB.os, hB.tape, hB.output, fun k _ hk => hh k hk⟩
    obtain ⟨rfl, rfl⟩ := u b y hb
    show upd μ b g b ≠ k
    rw [upd_same]; have := hk.1; omega
  refine ⟨⟨fun k hk => Nat.lt_of_lt_of_le (H.lt k hk) hB.size, fun b x hx => ?_, fun b b' x x' h1 h2 _ => ?_, fun b x hx => ?_, fun b x hx => ?_, fun g' => (H.glob g').mono F.le⟩, F, ?_⟩
  · rw [(u b x hx).1]; exact Nat.lt_succ_self n
  · rw [(u b x h1).1, (u b' x' h2).1]
  · obtain ⟨rfl, rfl⟩ := u b x hx
    rw [upd_same]; intro h; have := H.lt _ h; omega
  · obtain ⟨rfl, rfl⟩ := u b x hx
    refine ⟨C, T, (0, 0), ?_, by show Fz sz C.size (upd κ b cap b) (0, 0); rw [upd_same]; exact Fz.plain _ _ _ hcm, ?_, ?_, fun i e he => hc _ (fun x v h => h.mono F.le) i e he⟩
    · show w'.heap[upd μ b g b]? = _
      rw [upd_same]; exact hb
    · show es.length ≤ upd κ b cap b
      rw [upd_same]; exact hcap
    · show upd κ b cap b * sz ≤ C.size
      rw [upd_same]; exact hC
  · have r := RelC.own (K := ctx E w' (upd μ n g) (upd κ n cap) (upd (fun _ => none) n (some (.cells sz es))) (n + 1)) (b := n) (sz := sz) (off := 0) (len := es.length) (m := es.length) (cap := cap) (o := 0) (Nat.lt_succ_self n) (Nat.le_refl _) hcap (.inl (by simp)) (by show 0 + cap ≤ upd κ n cap n; rw [upd_same]; omega)
    have e : (ctx E w' (upd μ n g) (upd κ n cap) (upd (fun _ => none) n (some (.cells sz es))) (n + 1)).μ n = g := upd_same μ n g
    rw [e] at r
    exact .c r
def ins? {α : Type} (bytes : Nat) (xs : List α) (i : Int) (t : α) : Option (List α) := if 0 ≤ i ∧ i ≤ (xs.length : Int) ∧ (xs.length + 1) * bytes ≤ 140737488355328 then some (xs.take i.toNat ++ [t] ++ xs.drop i.toNat) else none
theorem ins_some {α : Type} {bytes : Nat} {xs : List α} {i : Int} {t : α} (h0 : 0 ≤ i) (h1 : i ≤ (xs.length : Int)) (h2 : (xs.length + 1) * bytes ≤ 140737488355328) : ins? bytes xs i t = some (xs.take i.toNat ++ [t] ++ xs.drop i.toNat) := if_pos ⟨h0, h1, h2⟩
/-- the cells of a row, element i new -/
def insL (sz n i : Nat) (C CV : Array Value) : List Value := C.toList.take (i * sz) ++ CV.toList.take sz ++ (C.toList.drop (i * sz)).take ((n - i) * sz)
theorem insL_len {sz n i : Nat} {C CV : Array Value} (hi : i ≤ n) (hn : n * sz ≤ C.size) (hv : sz ≤ CV.size) : (insL sz n i C CV).length = (n + 1) * sz := by
  have hCl : C.toList.length = C.size := Array.length_toList
  have hVl : CV.toList.length = CV.size := Array.length_toList
  have e : i * sz + (n - i) * sz = n * sz := by rw [← Nat.add_mul]; congr 1; omega
  unfold insL
  rw [List.length_append, List.length_append, List.length_take, List.length_take, List.length_take, List.length_drop, hCl, hVl, Nat.add_mul, Nat.one_mul]
  omega
theorem insL_rows {K : Ctx} {α : Type} {e : α → List Cel} {sz i : Nat} {xs : List α} {t : α} {C CV : Array Value} (hi : i ≤ xs.length) (hn : xs.length * sz ≤ C.size) (hv : sz ≤ CV.size) (hx : RowsIn K sz (xs.map e) C.toList) (ht : RowsIn K sz [e t] CV.toList) :
    RowsIn K sz ((xs.take i ++ [t] ++ xs.drop i).map e) (insL sz xs.length i C CV) := by
  have hCl : C.toList.length = C.size := Array.length_toList
  have hVl : CV.toList.length = CV.size := Array.length_toList
  have e0 : i * sz + (xs.length - i) * sz = xs.length * sz := by rw [← Nat.add_mul]; congr 1; omega
  rw [List.map_append, List.map_append, List.map_take, List.map_drop]
  unfold insL
  have h1 := hx.take i
  have h2 := ht.take 1
  have h3 := (hx.drop i).take (xs.length - i)
  rw [Nat.one_mul] at h2
  have e1 : ((xs.map e).drop i).take (xs.length - i) = (xs.map e).drop i := List.take_of_length_le (by simp)
  rw [e1] at h3
  refine RowsIn.append (RowsIn.append h1 h2 ?_) h3 ?_
  · rw [List.length_take, List.length_take, List.length_map, hCl, Nat.min_eq_left hi]; omega
  · rw [List.length_append, List.length_take, List.length_take, List.length_append, List.length_take, List.length_map, hCl, hVl, Nat.min_eq_left hi, Nat.add_mul]
    simp
    omega
theorem insL_get {sz n i k : Nat} {C CV : Array Value} (hi : i ≤ n) (hn : n * sz ≤ C.size) (hv : sz ≤ CV.size) :
    (insL sz n i C CV)[k]? = if k < i * sz then C[k]? else if k < (i + 1) * sz then (CV.toList.take sz)[k - i * sz]? else ((C.toList.drop (i * sz)).take ((n - i) * sz))[k - (i + 1) * sz]? := by
  have hCl : C.toList.length = C.size := Array.length_toList
  have hVl : CV.toList.length = CV.size := Array.length_toList
  have e0 : i * sz + (n - i) * sz = n * sz := by rw [← Nat.add_mul]; congr 1; omega
  have e1 : (i + 1) * sz = i * sz + sz := by rw [Nat.add_mul, Nat.one_mul]
  have l1 : (C.toList.take (i * sz)).length = i * sz := by rw [List.length_take, hCl]; omega
  have l2 : (CV.toList.take sz).length = sz := by rw [List.length_take, hVl]; omega
  unfold insL
  by_cases h1 : k < i * sz
  · rw [if_pos h1, List.getElem?_append_left (by rw [List.length_append]; omega), List.getElem?_append_left (by omega), List.getElem?_take, if_pos h1, Array.getElem?_toList]
  · rw [if_neg h1]
    by_cases h2 : k < (i + 1) * sz
    · rw [if_pos h2, List.getElem?_append_left (by rw [List.length_append]; omega), List.getElem?_append_right (by omega), l1]
    · rw [if_neg h2, List.getElem?_append_right (by rw [List.length_append]; omega), List.length_append, l1, l2, e1]
/-- first the moved ones, then the new one -/
theorem shift_cells {b sz n i : Nat} {C CV : Array Value} {T : TypeId} {fr : Nat × Nat} {w : World} (hb : w.heap[b]? = some (.cells C T fr)) (hi : i ≤ n) (hn : (n + 1) * sz ≤ C.size) (hv : sz ≤ CV.size) :
    ∃ C2 : Array Value, ((w.setCells b ((i + 1) * sz) ((C.toList.drop (i * sz)).take ((n - i) * sz))).setCells b (i * sz) (CV.toList.take sz)).heap[b]? = some (.cells C2 T fr) ∧ C2.size = C.size ∧ ∀ k, k < (n + 1) * sz → C2[k]? = (insL sz n i C CV)[k]? := by
  have hCl : C.toList.length = C.size := Array.length_toList
  have hVl : CV.toList.length = CV.size := Array.length_toList
  have e0 : i * sz + (n - i) * sz = n * sz := by rw [← Nat.add_mul]; congr 1; omega
  have e1 : (i + 1) * sz = i * sz + sz := by rw [Nat.add_mul, Nat.one_mul]
  have e2 : (n + 1) * sz = n * sz + sz := by rw [Nat.add_mul, Nat.one_mul]
  obtain ⟨C1, a1, a2, a3⟩ := setCells_row b T fr ((C.toList.drop (i * sz)).take ((n - i) * sz)) ((i + 1) * sz) w C hb
  obtain ⟨C2, b1, b2, b3⟩ := setCells_row b T fr (CV.toList.take sz) (i * sz) _ C1 a1
  have l1 : ((C.toList.drop (i * sz)).take ((n - i) * sz)).length = (n - i) * sz := by rw [List.length_take, List.length_drop, hCl]; omega
  have l2 : (CV.toList.take sz).length = sz := by rw [List.length_take, hVl]; omega
  refine ⟨C2, b1, by rw [b2, a2], fun k hk => ?_⟩
  rw [b3 k (by omega), a3 k (by omega), l1, l2, insL_get hi (by omega) hv]
  by_cases h1 : k < i * sz
  · rw [if_pos h1, if_neg (by omega), if_neg (by omega)]
  · rw [if_neg h1]
    by_cases h2 : k < (i + 1) * sz
    · rw [if_pos h2, if_pos ⟨by omega, by omega⟩]
    · rw [if_neg h2, if_neg (by omega), if_pos ⟨by omega, by omega⟩]
/-- first the new one, then the moved ones, in another row that begins as C does -/
theorem grow_cells {b sz n i : Nat} {C CV R : Array Value} {T : TypeId} {fr : Nat × Nat} {w : World} (hb : w.heap[b]? = some (.cells R T fr)) (hi : i ≤ n) (hn : n * sz ≤ C.size) (hR : (n + 1) * sz ≤ R.size) (hv : sz ≤ CV.size) (hRC : ∀ k, k < i * sz → R[k]? = C[k]?) :
    ∃ C2 : Array Value, (((w.setCells b (i * sz) (CV.toList.take sz)).drew).setCells b ((i + 1) * sz) ((C.toList.drop (i * sz)).take ((n - i) * sz))).heap[b]? = some (.cells C2 T fr) ∧ C2.size = R.size ∧ ∀ k, k < (n + 1) * sz → C2[k]? = (insL sz n i C CV)[k]? := by
  have hCl : C.toList.length = C.size := Array.length_toList
  have hVl : CV.toList.length = CV.size := Array.length_toList
  have e0 : i * sz + (n - i) * sz = n * sz := by rw [← Nat.add_mul]; congr 1; omega
  have e1 : (i + 1) * sz = i * sz + sz := by rw [Nat.add_mul, Nat.one_mul]
  have e2 : (n + 1) * sz = n * sz + sz := by rw [Nat.add_mul, Nat.one_mul]
  obtain ⟨C1, a1, a2, a3⟩ := setCells_row b T fr (CV.toList.take sz) (i * sz) w R hb
  obtain ⟨C2, b1, b2, b3⟩ := setCells_row b T fr ((C.toList.drop (i * sz)).take ((n - i) * sz)) ((i + 1) * sz) (w.setCells b (i * sz) (CV.toList.take sz)).drew C1 a1
  have l1 : ((C.toList.drop (i * sz)).take ((n - i) * sz)).length = (n - i) * sz := by rw [List.length_take, List.length_drop, hCl]; omega
  have l2 : (CV.toList.take sz).length = sz := by rw [List.length_take, hVl]; omega
  refine ⟨C2, b1, by rw [b2, a2], fun k hk => ?_⟩
  rw [b3 k (by omega), a3 k (by omega), l1, l2, insL_get hi (by omega) hv]
  by_cases h1 : k < i * sz
  · rw [if_pos h1, if_neg (by omega), if_neg (by omega), hRC k h1]
  · rw [if_neg h1]
    by_cases h2 : k < (i + 1) * sz
    · rw [if_pos h2, if_neg (by omega), if_pos ⟨by omega, by omega⟩]
    · rw [if_neg h2, if_pos ⟨by omega, by omega⟩]
theorem fin_rows {K : Ctx} {sz : Nat} {es : List (List Cel)} {L : List Value} {C : Array Value} (h : RowsIn K sz es L) (hC : ∀ k, k < L.length → C[k]? = L[k]?) : ∀ (i : Nat) (d : List Cel), es[i]? = some d → d.length = sz ∧ ∀ (j : Nat) (x : Cel), d[j]? = some x → ∃ v, C[i * sz + j]? = some v ∧ RelC K x v := fun i d hd =>
  ⟨(h i d hd).1, fun j x hx => by
    obtain ⟨v, hv, hr⟩ := (h i d hd).2 j x hx
    exact ⟨v, by rw [hC _ (List.getElem?_eq_some_iff.1 hv).1]; exact hv, hr⟩⟩
theorem rows_one {K : Ctx} {sz : Nat} {es : List (List Cel)} {C : Array Value} (hsz : 0 < sz) (h : RowsIn K sz es C.toList) (k : Nat) (hk : k < es.length * sz) (v : Value) (hv : C[k]? = some v) : v.oneCell' = true := by
  have hd : k / sz < es.length := (Nat.div_lt_iff_lt_mul hsz).2 hk
  obtain ⟨a, b⟩ := h (k / sz) _ (List.getElem?_eq_getElem hd)
  have hq : k % sz < es[k / sz].length := by rw [a]; exact Nat.mod_lt _ hsz
  obtain ⟨v', hv', hr⟩ := b (k % sz) _ (List.getElem?_eq_getElem hq)
  rw [Nat.mul_comm, Nat.div_add_mod, Array.getElem?_toList, hv] at hv'
  cases hv'
  exact one_oneCell hr.one
theorem blk_rows {K : Ctx} {b sz : Nat} {es : List (List Cel)} (h : BlkRel K b (.cells sz es)) : ∃ (C : Array Value) (T : TypeId) (fr : Nat × Nat), K.w.heap[K.μ b]? = some (.cells C T fr) ∧ Fz sz C.size (K.κ b) fr ∧ es.length ≤ K.κ b ∧ K.κ b * sz ≤ C.size ∧ RowsIn K sz es C.toList := by
  obtain ⟨C, T, fr, h0, h1, h2, h3, h4⟩ := h
  exact ⟨C, T, fr, h0, h1, h2, h3, fun k d hd => ⟨(h4 k d hd).1, fun q y hy => by obtain ⟨v, hv, hr⟩ := (h4 k d hd).2 q y hy; exact ⟨v, by rw [Array.getElem?_toList]; exact hv, hr⟩⟩⟩
theorem own_inv {K : Ctx} {b sz len : Nat} {v : Value} (h : RelV K (.c (.own b sz 0 len len)) v) : ∃ cap o, v = .slice (some ⟨K.μ b, o, none⟩) len cap ∧ len ≤ cap ∧ (o = 0 ∨ cap = 0) ∧ cap ≤ K.κ b := by
  cases h with
  | c h =>
    cases h with
    | @own _ _ _ _ _ _ cap o hb hl hm ho hk => exact ⟨cap, o, rfl, hm, by simpa using ho, by omega⟩
/-- a new row, behind a call that gave two lists up -/
theorem close_grow {Γ : Glob} {E : Nat → Prop} {w w' : World} {μ κ : Nat → Nat} {h : Heap} {sz cap : Nat} {C : Array Value} {TE : TypeId} {es : List (List Cel)} {L : List Value} (H : HeapOK Γ E w μ κ h 2) (hB : RowKit.Below w.heap.size w w')
    (hb : w'.heap[w.heap.size]? = some (.cells C TE (0, 0))) (hcap : es.length ≤ cap) (hcm : cap ≤ maxLen) (hC : cap * sz ≤ C.size) (hne : es ≠ []) (hr : RowsIn (ctx E w μ κ h 2) sz es L) (hCL : ∀ k, k < L.length → C[k]? = L[k]?) :
    ∃ (cv : Value) (r : AV) (h' : Heap) (n' : Nat) (μ' κ' : Nat → Nat), Ending.returned (.slice (some ⟨w.heap.size, 0, none⟩) es.length cap) = .returned cv ∧ (∃ z' : Bool, (z' = true → es = []) ∧ r = lstV z' 2 sz es.length ∧ (h' = (upd (fun _ => none) 2 (lstB z' sz es))) ∧ n' = 3) ∧ HeapOK Γ E w' μ' κ' h' n' ∧
      From E (ctx E w μ κ h 2) (ctx E w' μ' κ' h' n') ∧ RelV (ctx E w' μ' κ' h' n') r cv := by
  obtain ⟨H0, F0⟩ := H.less (h' := fun _ => none) (fun b x hb => by cases hb)
  have hr0 := hr.mono fun x v hr => hr.mono F0.le
  obtain ⟨H2, F2, R2⟩ := new_grownN (n := 2) (cap := cap) (sz := sz) (es := es) H0 hB (Nat.le_refl _) hb hcap hcm hC (fun K hK => fin_rows (hr0.mono hK) hCL)
  exact ⟨_, _, _, _, _, _, rfl, ⟨false, (fun h => by cases h), rfl, rfl, rfl⟩, H2, F0.trans F2, R2⟩
/-- the same row, behind a call that gave two lists up -/
theorem close_room {Γ : Glob} {E : Nat → Prop} {w w' : World} {μ κ : Nat → Nat} {h : Heap} {A : Blk} {sz cap : Nat} {C : Array Value} {TE : TypeId} {fr : Nat × Nat} {es : List (List Cel)} {L : List Value} (H : HeapOK Γ E w μ κ h 2) (hA : h 0 = some A)
    (hs : w'.heap.size = w.heap.size) (ho : w'.os = w.os) (ht : w'.tape = w.tape) (hu : w'.output = w.output) (hh : ∀ k, k ≠ μ 0 → w'.heap[k]? = w.heap[k]?)
    (hb : w'.heap[μ 0]? = some (.cells C TE fr)) (hf : Fz sz C.size (κ 0) fr) (hcap : es.length ≤ cap) (hκ : cap ≤ κ 0) (hC : κ 0 * sz ≤ C.size) (hr : RowsIn (ctx E w μ κ h 2) sz es L) (hCL : ∀ k, k < L.length → C[k]? = L[k]?) :
    ∃ (cv : Value) (r : AV) (h' : Heap) (n' : Nat) (μ' κ' : Nat → Nat), Ending.returned (.slice (some ⟨μ 0, 0, none⟩) es.length cap) = .returned cv ∧ (∃ z' : Bool, (z' = true → es = []) ∧ r = lstV z' 2 sz es.length ∧ (h' = (upd (fun _ => none) 2 (lstB z' sz es))) ∧ n' = 3) ∧ HeapOK Γ E w' μ' κ' h' n' ∧
      From E (ctx E w μ κ h 2) (ctx E w' μ' κ' h' n') ∧ RelV (ctx E w' μ' κ' h' n') r cv := by
  obtain ⟨H0, F0⟩ := H.less (h' := upd (fun _ => none) 0 (some A)) (fun b x hb => by
    by_cases e : b = 0
    · subst e; rw [upd_same] at hb; rw [hA]; exact hb
    · rw [upd_ne _ _ e] at hb; cases hb)
  have hr0 := hr.mono fun x v hr => hr.mono F0.le
  obtain ⟨μ', κ', H2, F2, R2⟩ := own_renamed (n := 2) (sz := sz) (len := es.length) (cap := cap) (es := es) (C := C) (T := TE) (fr := fr) H0 (by decide) hs ho ht hu hh hb hf rfl hcap hκ hC (fun K hK => fin_rows (hr0.mono hK) hCL)
  exact ⟨_, _, _, _, μ', κ', rfl, ⟨false, (fun h => by cases h), rfl, rfl, rfl⟩, H2, F0.trans F2, R2⟩
theorem below_da (w : World) (o : Obj) : RowKit.Below w.heap.size w (w.drew.alloc o) := ((RowKit.Below.refl _ w).drew).alloc (Nat.le_refl _) o
theorem wrap {α : Type} {e : α → List Cel} {sz g cap len : Nat} {r : List α} {es : List (List Cel)} {Q : AV → Heap → Nat → (Nat → Nat) → (Nat → Nat) → Value → Prop}
    (h : ∃ (cv : Value) (rv : AV) (h' : Heap) (n' : Nat) (μ' κ' : Nat → Nat), Ending.returned (.slice (some ⟨g, 0, none⟩) es.length cap) = .returned cv ∧ (∃ z' : Bool, (z' = true → es = []) ∧ rv = lstV z' 2 sz es.length ∧ (h' = (upd (fun _ => none) 2 (lstB z' sz es))) ∧ n' = 3) ∧ Q rv h' n' μ' κ' cv) (he : es = r.map e) (hl : es.length = len) :
    ∃ (cv : Value) (rv : AV) (h' : Heap) (n' : Nat) (μ' κ' : Nat → Nat), Ending.returned (.slice (some ⟨g, 0, none⟩) len cap) = .returned cv ∧ (∃ z' : Bool, (z' = true → r = []) ∧ rv = lstV z' 2 sz r.length ∧ (h' = (upd (fun _ => none) 2 (lstB z' sz (r.map e)))) ∧ n' = 3) ∧ Q rv h' n' μ' κ' cv := by
  subst he
  subst hl
  obtain ⟨cv, rv, h', n', μ', κ', e0, ⟨z', a1, a2, a3, a4⟩, b⟩ := h
  exact ⟨cv, rv, h', n', μ', κ', e0, ⟨z', fun hz => List.map_eq_nil_iff.1 (a1 hz), by rw [a2, List.length_map], a3, a4⟩, b⟩
theorem ins_ok {P : Program} {Γ : Glob} {f : FuncId} {α : Type} {e : α → List Cel} {sz bytes : Nat} {TE : TypeId} {zs : Array Value} (he : ∀ x, (e x).length = sz) (hsz : 1 < sz) (hby : 0 < bytes) (hzs : zs.size = sz)
    (hshift : ∀ (b n c i vb vc : Nat) (C CV : Array Value) (T TV : TypeId) (fr : Nat × Nat) (w : World), w.heap[b]? = some (.cells C T fr) → (∀ k, k < C.size → w.frozen? ⟨b, k, none⟩ = false) → c * sz ≤ C.size → i < n → n + 1 ≤ c → c ≤ 9223372036854775807 → w.heap[vb]? = some (.cells CV TV (0, 0)) → sz ≤ CV.size → vb ≠ b →
      (∀ k, k < n * sz → ∀ v, C[k]? = some v → v.oneCell' = true) → (∀ k, k < sz → ∀ v, CV[k]? = some v → v.oneCell' = true) →
      Calls P f #[.slice (some ⟨b, 0, none⟩) n c, .int .i64 i, .slice (some ⟨vb, 0, none⟩) 1 vc] w fun e w' => e = .returned (.slice (some ⟨b, 0, none⟩) (n + 1) c) ∧ w' = (w.drew.setCells b ((i + 1) * sz) ((C.toList.drop (i * sz)).take ((n - i) * sz))).setCells b (i * sz) (CV.toList.take sz))
    (hroom : ∀ (b n c vb vc : Nat) (C CV : Array Value) (T TV : TypeId) (fr : Nat × Nat) (w : World), w.heap[b]? = some (.cells C T fr) → (∀ k, k < C.size → w.frozen? ⟨b, k, none⟩ = false) → c * sz ≤ C.size → n + 1 ≤ c → c ≤ 9223372036854775807 → w.heap[vb]? = some (.cells CV TV (0, 0)) → sz ≤ CV.size → (∀ k, k < sz → ∀ v, CV[k]? = some v → v.oneCell' = true) →
      Calls P f #[.slice (some ⟨b, 0, none⟩) n c, .int .i64 n, .slice (some ⟨vb, 0, none⟩) 1 vc] w fun e w' => e = .returned (.slice (some ⟨b, 0, none⟩) (n + 1) c) ∧ w' = w.setCells b (n * sz) (CV.toList.take sz))
    (hend : ∀ (base : Option Addr) (n c vb vc : Nat) (olds : List Value) (CV : Array Value) (TV : TypeId) (w : World), n ≤ c → c < n + 1 → (n + 1) * bytes ≤ 140737488355328 → olds.length = n * sz → (base = none → n = 0) → (∀ a, base = some a → ∀ j v, olds[j]? = some v → w.cell? (a.add j) = some v) → w.heap[vb]? = some (.cells CV TV (0, 0)) → sz ≤ CV.size → (∀ k, k < sz → ∀ v, CV[k]? = some v → v.oneCell' = true) →
      Calls P f #[.slice base n c, .int .i64 n, .slice (some ⟨vb, 0, none⟩) 1 vc] w fun e w' => e = .returned (.slice (some ⟨w.heap.size, 0, none⟩) (n + 1) (grownCap w (n + 1) c TE)) ∧ w' = w.drew.alloc (.cells ((olds ++ CV.toList.take sz).toArray ++ Builtin.zeroCells zs (grownCap w (n + 1) c TE - (n + 1))) TE))
    (hgrow : ∀ (b n c i vb vc : Nat) (C CV : Array Value) (T TV : TypeId) (fr : Nat × Nat) (w : World), w.heap[b]? = some (.cells C T fr) → c * sz ≤ C.size → i < n → n ≤ c → c < n + 1 → (n + 1) * bytes ≤ 140737488355328 → w.heap[vb]? = some (.cells CV TV (0, 0)) → sz ≤ CV.size →
      (∀ k, k < n * sz → ∀ v, C[k]? = some v → v.oneCell' = true) → (∀ k, k < sz → ∀ v, CV[k]? = some v → v.oneCell' = true) →
      Calls P f #[.slice (some ⟨b, 0, none⟩) n c, .int .i64 i, .slice (some ⟨vb, 0, none⟩) 1 vc] w fun e w' => e = .returned (.slice (some ⟨w.heap.size, 0, none⟩) (n + 1) (grownCap w (n + 1) c TE)) ∧
        w' = (((w.alloc (.cells ((C.toList.take (i * sz)).toArray ++ Builtin.zeroCells zs (n + 1 - i) ++ Builtin.zeroCells zs (grownCap w (n + 1) c TE - (n + 1))) TE)).drew.setCells w.heap.size (i * sz) (CV.toList.take sz)).drew).setCells w.heap.size ((i + 1) * sz) ((C.toList.drop (i * sz)).take ((n - i) * sz)))
    {xs r : List α} {z zv : Bool} {i : Int} {t : α} (hz : z = true → xs = []) (hzv : zv = true → [t] = []) (h : ins? bytes xs i t = some r) :
    ACalls P Γ f [lstV z 0 sz xs.length, I i, lstV zv 1 sz 1] (upd (upd (fun _ => none) 0 (lstB z sz (xs.map e))) 1 (lstB zv sz ([t].map e))) 2 (fun v h' n' => ∃ z' : Bool, (z' = true → r = []) ∧ v = lstV z' 2 sz r.length ∧ (h' = (upd (fun _ => none) 2 (lstB z' sz (r.map e)))) ∧ n' = 3) := by
  unfold ins? at h
  split at h
  · rename_i hn
    cases h
    obtain ⟨hi0, hin, hbig⟩ := hn
    obtain ⟨i, rfl⟩ : ∃ k : Nat, i = k := ⟨i.toNat, by omega⟩
    have hin : i ≤ xs.length := by omega
    have ezv : zv = false := by cases zv with
      | false => rfl
      | true => cases hzv rfl
    subst ezv
    have hrl : (xs.take i ++ [t] ++ xs.drop i).length = xs.length + 1 := by simp; omega
    intro E w μ κ cargs H hszs hrel
    have e1 := relI (hrel 1 _ rfl)
    obtain ⟨vc, ov, e2, hvc, hov, hkv⟩ := own_inv (hrel 2 _ rfl)
    have hov : ov = 0 := by omega
    subst hov
    obtain ⟨CV, TV, frv, v0, v1, v2, v3, v4⟩ := blk_rows (H.blk 1 (.cells sz ([t].map e)) (upd_same _ _ _))
    replace v0 : w.heap[μ 1]? = some (.cells CV TV frv) := v0
    have v5 := (v1.2 (by omega)).1
    subst v5
    have hvs : sz ≤ CV.size := by
      have : 1 ≤ κ 1 := v2
      have h3 : κ 1 * sz ≤ CV.size := v3
      have : 1 * sz ≤ κ 1 * sz := Nat.mul_le_mul_right _ this
      omega
    have h1v : ∀ k, k < sz → ∀ v, CV[k]? = some v → v.oneCell' = true := fun k hk v hv => rows_one (by omega) v4 k (by simpa using hk) v hv
    have h0 := hrel 0 _ rfl
    rw [arr3 hszs, e1, e2]
    generalize cargs.getD 0 undef = w0 at h0
    have hVl : CV.toList.length = CV.size := Array.length_toList
    have hl2 : (CV.toList.take sz).length = sz := by rw [List.length_take, hVl]; omega
    have hcap63 : ∀ c : Nat, c ≤ maxLen → c ≤ 9223372036854775807 := fun c hc => by unfold maxLen at hc; omega
    cases z with
    | true =>
      have hx := hz rfl
      subst hx
      have hi : i = 0 := by simpa using hin
      subst hi
      rw [show w0 = .slice none 0 0 from by
        cases h0 with
        | c h0 => cases h0 with
          | ro f hn hc hz hl hs hcell hrel =>
            have := hn rfl
            subst this
            rw [hz rfl]; rfl]
      refine (hend none 0 0 (μ 1) vc [] CV TV w (Nat.le_refl _) (by omega) hbig (by simp) (fun _ => rfl) (fun a ha => by cases ha) v0 hvs h1v).mono ?_
      rintro ed w' ⟨rfl, rfl⟩
      have hG : 0 + 1 ≤ grownCap w (0 + 1) 0 TE := grownCap_ge w _ _ _
      have hGm := grownCap_le_maxLen w (0 + 1) 0 TE (by unfold maxLen; omega)
      generalize grownCap w (0 + 1) 0 TE = G at hG hGm ⊢
      have hrow := alloc_heap w.drew (.cells (([] ++ CV.toList.take sz).toArray ++ Builtin.zeroCells zs (G - (0 + 1))) TE) w.drew.heap.size
      rw [if_pos rfl] at hrow
      have h4 := v4.take 1
      rw [Nat.one_mul] at h4
      have eG : G * sz = sz + (G - (0 + 1)) * sz := by
        have : G * sz = 1 * sz + (G - 1) * sz := by rw [← Nat.add_mul]; congr 1; omega
        simp only [Nat.zero_add]; omega
      refine wrap (r := ([] : List α).take ((0 : Nat) : Int).toNat ++ [t] ++ ([] : List α).drop ((0 : Nat) : Int).toNat) (len := 0 + 1) (close_grow (es := [e t]) (L := CV.toList.take sz) H (below_da w _) hrow (by simpa using hG) hGm ?_ (by simp) h4 (fun k hk => ?_)) rfl rfl
      · rw [Array.size_append, size_zeroCells, hzs, List.size_toArray, List.nil_append, hl2, eG]; exact Nat.le_refl _
      · rw [hl2] at hk
        rw [Array.getElem?_append_left (by simp only [List.size_toArray, List.nil_append, hl2]; exact hk)]; simp
    | false =>
      obtain ⟨cap, o, e3, hm, ho, hk'⟩ := own_inv h0
      have hA : upd (upd (fun _ => none) 0 (lstB false sz (xs.map e))) 1 (lstB false sz ([t].map e)) 0 = some (.cells sz (xs.map e)) := by rw [upd_ne _ _ (by decide), upd_same]; rfl
      obtain ⟨C, T, fr, c0, c1, c2, c3, c4⟩ := blk_rows (H.blk 0 (.cells sz (xs.map e)) hA)
      replace c0 : w.heap[μ 0]? = some (.cells C T fr) := c0
      replace c3 : κ 0 * sz ≤ C.size := c3
      replace hk' : cap ≤ κ 0 := hk'
      have hcm : κ 0 ≤ maxLen := (c1.2 (by omega)).2
      have hcC : cap * sz ≤ C.size := Nat.le_trans (Nat.mul_le_mul_right _ hk') c3
      have hnC : xs.length * sz ≤ C.size := Nat.le_trans (Nat.mul_le_mul_right _ hm) hcC
      have hfz : ∀ k, k < C.size → w.frozen? ⟨μ 0, k, none⟩ = false := fun k hk => block_free c0 c1.1 k hk
      have h1c : ∀ k, k < xs.length * sz → ∀ v, C[k]? = some v → v.oneCell' = true := fun k hk v hv => rows_one (by omega) c4 k (by simpa using hk) v hv
      have hne : μ 1 ≠ μ 0 := fun hh => by
        have := H.inj 1 0 _ _ (upd_same _ _ _) hA hh
        omega
      have hrows := insL_rows (i := i) (t := t) hin hnC hvs c4 v4
      have hLl := insL_len (i := i) (C := C) (CV := CV) hin hnC hvs
      have hel : ((xs.take i ++ [t] ++ xs.drop i).map e).length = xs.length + 1 := by rw [List.length_map, hrl]
      rw [e3]
      by_cases hr : xs.length + 1 ≤ cap
      · have ho : o = 0 := by omega
        subst ho
        have hnC1 : (xs.length + 1) * sz ≤ C.size := Nat.le_trans (Nat.mul_le_mul_right _ hr) hcC
        by_cases hlt : i < xs.length
        · refine (hshift (μ 0) xs.length cap i (μ 1) vc C CV T TV fr w c0 hfz hcC hlt hr (hcap63 _ (Nat.le_trans hk' hcm)) v0 hvs hne h1c h1v).mono ?_
          rintro ed w' ⟨rfl, rfl⟩
          obtain ⟨C2, a1, a2, a3⟩ := shift_cells (w := w.drew) (sz := sz) (n := xs.length) (i := i) (C := C) (CV := CV) c0 hin hnC1 hvs
          exact wrap (len := xs.length + 1) (r := xs.take i ++ [t] ++ xs.drop i) (close_room (cap := cap) H hA (by rw [setCells_size, setCells_size]; rfl)
            ((setCells_rest _ _ _ _).1.trans (setCells_rest _ _ _ _).1) ((setCells_rest _ _ _ _).2.1.trans (setCells_rest _ _ _ _).2.1) ((setCells_rest _ _ _ _).2.2.trans (setCells_rest _ _ _ _).2.2)
            (fun k hk => by rw [setCells_other _ _ _ _ k hk, setCells_other _ _ _ _ k hk]; rfl) a1 (by rw [a2]; exact c1) (by rw [hel]; exact hr) hk' (by rw [a2]; exact c3) hrows (fun k hk => a3 k (by rw [← hLl]; exact hk))) rfl hel
        · obtain rfl : i = xs.length := by omega
          refine (hroom (μ 0) xs.length cap (μ 1) vc C CV T TV fr w c0 hfz hcC hr (hcap63 _ (Nat.le_trans hk' hcm)) v0 hvs h1v).mono ?_
          rintro ed w' ⟨rfl, rfl⟩
          obtain ⟨C2, a1, a2, a3⟩ := shift_cells (w := w) (sz := sz) (n := xs.length) (i := xs.length) (C := C) (CV := CV) c0 hin hnC1 hvs
          rw [Nat.sub_self, Nat.zero_mul, List.take_zero] at a1
          exact wrap (len := xs.length + 1) (r := xs.take xs.length ++ [t] ++ xs.drop xs.length) (close_room (cap := cap) H hA (setCells_size _ _ _ _)
            (setCells_rest _ _ _ _).1 (setCells_rest _ _ _ _).2.1 (setCells_rest _ _ _ _).2.2
            (fun k hk => setCells_other _ _ _ _ k hk) a1 (by rw [a2]; exact c1) (by rw [hel]; exact hr) hk' (by rw [a2]; exact c3) hrows (fun k hk => a3 k (by rw [← hLl]; exact hk))) rfl hel
      · have hRl1 : (xs.length + 1) * sz = xs.length * sz + sz := by rw [Nat.add_mul, Nat.one_mul]
        have hCl : C.toList.length = C.size := Array.length_toList
        have hG : xs.length + 1 ≤ grownCap w (xs.length + 1) cap TE := grownCap_ge w _ _ _
        have hGm := grownCap_le_maxLen w (xs.length + 1) cap TE (by
          have : xs.length + 1 ≤ (xs.length + 1) * bytes := Nat.le_mul_of_pos_right _ hby
          unfold maxLen; omega)
        have eG : ∀ G, xs.length + 1 ≤ G → G * sz = (xs.length + 1) * sz + (G - (xs.length + 1)) * sz := fun G hG => by rw [← Nat.add_mul]; congr 1; omega
        by_cases hlt : i < xs.length
        · have ho : o = 0 := by omega
          subst ho
          refine (hgrow (μ 0) xs.length cap i (μ 1) vc C CV T TV fr w c0 hcC hlt hm (by omega) hbig v0 hvs h1c h1v).mono ?_
          rintro ed w' ⟨rfl, rfl⟩
          generalize grownCap w (xs.length + 1) cap TE = G at hG hGm ⊢
          obtain ⟨R, hR⟩ : ∃ R : Array Value, R = (C.toList.take (i * sz)).toArray ++ Builtin.zeroCells zs (xs.length + 1 - i) ++ Builtin.zeroCells zs (G - (xs.length + 1)) := ⟨_, rfl⟩
          rw [← hR]
          have e9 : i * sz + (xs.length + 1 - i) * sz = (xs.length + 1) * sz := by rw [← Nat.add_mul]; congr 1; omega
          have hiC : i * sz ≤ C.size := Nat.le_trans (Nat.mul_le_mul_right _ hin) hnC
          have htl : (C.toList.take (i * sz)).length = i * sz := by rw [List.length_take, hCl]; omega
          have hRs : R.size = G * sz := by
            rw [hR, Array.size_append, Array.size_append, size_zeroCells, size_zeroCells, hzs, List.size_toArray, htl, e9, ← eG G hG]
          have hrow := alloc_heap w (.cells R TE) w.heap.size
          rw [if_pos rfl] at hrow
          obtain ⟨C2, a1, a2, a3⟩ := grow_cells (w := (w.alloc (.cells R TE)).drew) (sz := sz) (n := xs.length) (i := i) (C := C) (CV := CV) (R := R) hrow hin hnC (by rw [hRs]; exact Nat.mul_le_mul_right _ hG) hvs (fun k hk => by
            rw [hR, Array.getElem?_append_left (by rw [Array.size_append, List.size_toArray, htl]; omega), Array.getElem?_append_left (by rw [List.size_toArray, htl]; exact hk)]
            rw [List.getElem?_toArray, List.getElem?_take, if_pos hk, Array.getElem?_toList])
          refine wrap (len := xs.length + 1) (r := xs.take i ++ [t] ++ xs.drop i) (close_grow (cap := G) H ⟨(setCells_rest _ _ _ _).1.trans (setCells_rest _ _ _ _).1, (setCells_rest _ _ _ _).2.1.trans (setCells_rest _ _ _ _).2.1, (setCells_rest _ _ _ _).2.2.trans (setCells_rest _ _ _ _).2.2, ?_, fun k hk => ?_⟩ a1 (by rw [hel]; exact hG) hGm (by rw [a2, hRs]; exact Nat.le_refl _) (by simp) hrows (fun k hk => a3 k (by rw [← hLl]; exact hk))) rfl hel
          · rw [setCells_size]
            show _ ≤ ((w.alloc (.cells R TE)).drew.setCells w.heap.size (i * sz) (CV.toList.take sz)).heap.size
            rw [setCells_size]
            show _ ≤ (w.alloc (.cells R TE)).heap.size
            simp
          · rw [setCells_other _ _ _ _ k (by omega)]
            show ((w.alloc (.cells R TE)).drew.setCells w.heap.size (i * sz) (CV.toList.take sz)).heap[k]? = _
            rw [setCells_other _ _ _ _ k (by omega)]
            show (w.alloc (.cells R TE)).heap[k]? = _
            rw [alloc_heap, if_neg (by omega)]
        · obtain rfl : i = xs.length := by omega
          have htl : (C.toList.take (xs.length * sz)).length = xs.length * sz := by rw [List.length_take, hCl]; omega
          refine (hend (some ⟨μ 0, o, none⟩) xs.length cap (μ 1) vc (C.toList.take (xs.length * sz)) CV TV w hm (by omega) hbig htl (fun hh => by cases hh) (fun a ha j v hj => ?_) v0 hvs h1v).mono ?_
          · cases ha
            have hj2 := (List.getElem?_eq_some_iff.1 hj).1
            rw [htl] at hj2
            have hxl : 0 < xs.length := by
              rcases Nat.eq_zero_or_pos xs.length with h0 | h0
              · rw [h0, Nat.zero_mul] at hj2; omega
              · exact h0
            have ho : o = 0 := by omega
            subst ho
            rw [List.getElem?_take, if_pos hj2, Array.getElem?_toList] at hj
            rw [Addr.add_lit, Nat.zero_add, block_cell c0]; exact hj
          · rintro ed w' ⟨rfl, rfl⟩
            generalize grownCap w (xs.length + 1) cap TE = G at hG hGm ⊢
            have hrow := alloc_heap w.drew (.cells ((C.toList.take (xs.length * sz) ++ CV.toList.take sz).toArray ++ Builtin.zeroCells zs (G - (xs.length + 1))) TE) w.drew.heap.size
            rw [if_pos rfl] at hrow
            have hal : (C.toList.take (xs.length * sz) ++ CV.toList.take sz).length = (xs.length + 1) * sz := by rw [List.length_append, htl, hl2, hRl1]
            refine wrap (len := xs.length + 1) (r := xs.take xs.length ++ [t] ++ xs.drop xs.length) (close_grow (cap := G) H (below_da w _) hrow (by rw [hel]; exact hG) hGm (by
              rw [Array.size_append, size_zeroCells, hzs, List.size_toArray, hal, ← eG G hG]; exact Nat.le_refl _) (by simp) hrows (fun k hk => ?_)) rfl hel
            rw [hLl] at hk
            rw [Array.getElem?_append_left (by rw [List.size_toArray, hal]; exact hk), List.getElem?_toArray]
            unfold insL
            rw [Nat.sub_self, Nat.zero_mul, List.take_zero, List.append_nil]
  · cases h
end Go.Proofs.YtoomjemboekooaaBv
