/- The library's strings.Builder, walked once more: what it does to memory, block by block. Over any program that bears it. -/
import Derived.Shelf.Strings.Builder1
namespace Go.Proofs.YtolmbcngghkfiaaDoorBv
open Go Go.Shelf Go.RowKit Go.Proofs
set_option linter.unusedVariables false
set_option linter.unusedSimpArgs false

section
variable {P : Program} (w : World)
/-- where the bytes lie behind an append: where they lay, or in a new block -/
def Moved (w : World) (v v' : Value) : Prop := v'.ownBlock = v.ownBlock ∨ v'.ownBlock = some w.heap.size
theorem append_bytes (t ty e : TypeId) (i : TypeInfo) (ht : P.underlying t = some (.slice e)) (hi : P.info? e = some i) (hz : i.zero = some (.int .u8 0)) (hsize : i.size = 1) (hby : i.bytes = 1)
    (v : Value) (n : Nat) (xs : List Value) (hown : w.ownsRow 0 e 1 v n xs) (a : Addr) (c : Nat) (x : Value) (hx : w.cell? a = some x) (h1 : x.oneCell' = true) (h63 : n + 1 ≤ maxLen) (hbytes : n + 1 ≤ 140737488355328) :
    ∃ v' w', (Builtin.append_ #[t, t] ty #[v, .slice (some a) 1 c]).run P w = .ok v' w' ∧ w'.ownsRow 0 e 1 v' (n + 1) (xs ++ [x]) ∧ w.grownBy w' v.ownBlock ∧ Moved w v v' := by
  have hnews : ∀ j u, [x][j]? = some u → w.cell? (a.add j) = some u := by
    intro j u hu
    match j, hu with
    | 0, hu => cases hu; simpa [Addr.add] using hx
  have hone : ∀ u ∈ [x], u.oneCell' = true := fun u hu => by rw [List.mem_singleton] at hu; subst hu; exact h1
  obtain ⟨v', w', hr, h2, h3, _⟩ := run_append_own (P := P) w 0 t ty e i (.int .u8 0) 1 1 ht hi hz hsize hby rfl (by decide) v n xs hown a 1 c [x] rfl hnews hone h63 (by omega) (Nat.zero_le _)
  refine ⟨v', w', hr, h2, h3, ?_⟩
  have hm : maxLen = 9223372036854775807 := by decide
  rcases hown.2 with ⟨rfl, rfl⟩ | ⟨g, cap, cur, rfl, hbg, hg, hnc, hcm, hcs, htake⟩
  · have h := run_append_nil (P := P) w t ty e i (.int .u8 0) ht hi hz a 1 c [x] (by rw [hsize]; rfl) hnews (by decide) (by decide) (by rw [hby]; decide)
    rw [hr] at h
    cases h
    exact .inr rfl
  · by_cases hroom : n + 1 ≤ cap
    · have h := run_append_room (P := P) w t ty e i ht hi g n cap cur hg a 1 c [x] (by rw [hsize]; rfl) hnews hone hroom (by rw [hsize, hcs]; simp; omega)
      rw [hr] at h
      cases h
      exact .inl rfl
    · have h := run_append_grow (P := P) w t ty e i (.int .u8 0) ht hi hz ⟨g, 0, none⟩ n cap xs (by rw [hsize]; exact hown.1) (hown.cells (g := g) rfl) a 1 c [x] (by rw [hsize]; rfl) hnews (by omega) (by omega) (by rw [hby]; exact growslice_fits (by omega) (by omega))
      rw [hr] at h
      cases h
      exact .inr rfl
theorem wpList_append_byte {ops : Array Oper} {rest : List Oper} {o : Oper} {a : Act} {Q : Exit → Act → World → Prop} (hgd : o.guard = none) (s x : Operand) (t : TypeId) (ho : o.op = .call { callee := .builtin .append, args := #[s, x], argTypes := #[t, t] })
    (e : TypeId) (i : TypeInfo) (ht : P.underlying t = some (.slice e)) (hi : P.info? e = some i) (hz : i.zero = some (.int .u8 0)) (hsize : i.size = 1) (hby : i.bytes = 1)
    (v : Value) (n : Nat) (xs : List Value) (hs : a.eval s = v) (hown : w.ownsRow 0 e 1 v n xs) (ad : Addr) (c : Nat) (y : Value) (hx : a.eval x = .slice (some ad) 1 c) (hy : w.cell? ad = some y) (h1 : y.oneCell' = true) (h63 : n + 1 ≤ maxLen) (hbytes : n + 1 ≤ 140737488355328)
    (h : ∀ v' w', w'.ownsRow 0 e 1 v' (n + 1) (xs ++ [y]) → w.grownBy w' v.ownBlock → Moved w v v' → wpList P ops Q rest (a.put o.dst v') w') : wpList P ops Q (o :: rest) a w := by
  refine wpList_plain hgd fun K hK => ?_
  obtain ⟨v', w', hr, h2, h3, h4⟩ := append_bytes (P := P) w t o.type e i ht hi hz hsize hby v n xs hown ad c y hy h1 h63 hbytes
  unfold Oper.wp execOp
  simp only [ho, resolve, invoke, builtin, Sem.run_bind, Sem.run_pure, Result.andThen_ok, List.map_toArray, List.map_cons, List.map_nil, hs, hx, hr]
  exact hK _ _ (h v' w' h2 h3 h4)
theorem append_text (t u ty e : TypeId) (i : TypeInfo) (ht : P.underlying t = some (.slice e)) (hu : P.underlying u = some .string) (hi : P.info? e = some i) (hz : i.zero = some (.int .u8 0)) (hsize : i.size = 1) (hby : i.bytes = 1)
    (v : Value) (n : Nat) (xs : List Value) (hown : w.ownsRow 0 e 1 v n xs) (s : ByteArray) (h63 : n + s.size ≤ maxLen) (hbytes : n + s.size ≤ 140737488355328) :
    ∃ v' w', (Builtin.append_ #[t, u] ty #[v, .string s]).run P w = .ok v' w' ∧ w'.ownsRow 0 e 1 v' (n + s.size) (xs ++ Lib.strCells s) ∧ w.grownBy w' v.ownBlock ∧ Moved w v v' := by
  obtain ⟨v', w', hr, h2, h3, h4⟩ := Lib.run_append_own_string (P := P) w 0 t u ty e i ht hu hi hz hsize hby v n xs hown s h63 hbytes (Nat.zero_le _)
  refine ⟨v', w', hr, h2, h3, ?_⟩
  have hm : maxLen = 9223372036854775807 := by decide
  have hxl : xs.length = n := by simpa using hown.1
  rcases hown.2 with ⟨rfl, rfl⟩ | ⟨g, cap, cur, rfl, hbg, hg, hnc, hcm, hcs, htake⟩
  · by_cases h0 : s.size = 0
    · have := h4.2 ⟨rfl, h0⟩
      subst this
      exact .inl rfl
    · have h := run_append_nil_string (P := P) w t u ty e i (.int .u8 0) ht hu hi hz s (by omega) (by omega) (by rw [hby]; omega)
      rw [hr] at h
      cases h
      exact .inr rfl
  · by_cases hroom : n + s.size ≤ cap
    · have h := Lib.run_append_room_string (P := P) w t u ty e i ht hu hi hsize g n cap cur hg s hroom (by simp at hcs; omega)
      rw [hr] at h
      cases h
      exact .inl rfl
    · have h := Lib.run_append_grow_string (P := P) w t u ty e i (.int .u8 0) ht hu hi hz ⟨g, 0, none⟩ n cap xs (by rw [hsize]; omega) (hown.cells (g := g) rfl) s (by omega) (by omega) (by rw [hby]; exact growslice_fits (by omega) (by omega))
      rw [hr] at h
      cases h
      exact .inr rfl
theorem wpList_append_text {ops : Array Oper} {rest : List Oper} {o : Oper} {a : Act} {Q : Exit → Act → World → Prop} (hgd : o.guard = none) (sl x : Operand) (t u : TypeId) (ho : o.op = .call { callee := .builtin .append, args := #[sl, x], argTypes := #[t, u] })
    (e : TypeId) (i : TypeInfo) (ht : P.underlying t = some (.slice e)) (hu : P.underlying u = some .string) (hi : P.info? e = some i) (hz : i.zero = some (.int .u8 0)) (hsize : i.size = 1) (hby : i.bytes = 1)
    (v : Value) (n : Nat) (xs : List Value) (hs : a.eval sl = v) (hown : w.ownsRow 0 e 1 v n xs) (s : ByteArray) (hx : a.eval x = .string s) (h63 : n + s.size ≤ maxLen) (hbytes : n + s.size ≤ 140737488355328)
    (h : ∀ v' w', w'.ownsRow 0 e 1 v' (n + s.size) (xs ++ Lib.strCells s) → w.grownBy w' v.ownBlock → Moved w v v' → wpList P ops Q rest (a.put o.dst v') w') : wpList P ops Q (o :: rest) a w := by
  refine wpList_plain hgd fun K hK => ?_
  obtain ⟨v', w', hr, h2, h3, h4⟩ := append_text (P := P) w t u o.type e i ht hu hi hz hsize hby v n xs hown s h63 hbytes
  unfold Oper.wp execOp
  simp only [ho, resolve, invoke, builtin, Sem.run_bind, Sem.run_pure, Result.andThen_ok, List.map_toArray, List.map_cons, List.map_nil, hs, hx, hr]
  exact hK _ _ (h v' w' h2 h3 h4)

end

section
variable {P : Program} {ρ : Ren}
abbrev at0 (b : Nat) : Value := .pointer (some ⟨b, 0, none⟩)
/-- A builder in memory: its two cells, and the row of bytes that it owns. -/
structure Bld (T e : TypeId) (b : Nat) (p v : Value) (bs : List Value) (w : World) : Prop where
  blk : w.heap[b]? = some (.cells #[p, v] T (0, 0))
  own : w.ownsRow 0 e 1 v bs.length bs
  ne : v.ownBlock ≠ some b
/-- What a method leaves: nothing but the builder's own two blocks has changed. -/
structure Kept2 (b : Nat) (v v' : Value) (w w' : World) : Prop where
  os : w'.os = w.os
  tape : w'.tape = w.tape
  output : w'.output = w.output
  size : w.heap.size ≤ w'.heap.size
  block : ∀ k, k < w.heap.size → k ≠ b → some k ≠ v.ownBlock → w'.heap[k]? = w.heap[k]?
  moved : v'.ownBlock = v.ownBlock ∨ ∃ g, v'.ownBlock = some g ∧ w.heap.size ≤ g
theorem Bld.lt {T e : TypeId} {b : Nat} {p v : Value} {bs : List Value} {w : World} (h : Bld T e b p v bs w) : b < w.heap.size := (Array.getElem?_eq_some_iff.1 h.blk).1
theorem Bld.set0 {T e : TypeId} {b : Nat} {p v q : Value} {bs : List Value} {w : World} (h : Bld T e b p v bs w) : Bld T e b q v bs (w.setCell ⟨b, 0, none⟩ q) ∧ Kept2 b v v w (w.setCell ⟨b, 0, none⟩ q) := by
  have hk : ∀ k, k ≠ b → (w.setCell ⟨b, 0, none⟩ q).heap[k]? = w.heap[k]? := fun k hk => Below.heap_setCell _ _ _ _ hk
  refine ⟨⟨?_, ?_, h.ne⟩, ⟨rfl, rfl, rfl, by simp [World.setCell], fun k _ hb _ => hk k hb, .inl rfl⟩⟩
  · simp [World.setCell, Array.getElem?_modify, h.blk]
  · exact h.own.kept (row := some b) ⟨rfl, rfl, rfl, by simp [World.setCell], fun k _ hb => hk k (fun e => hb (by rw [e]))⟩ (.inr h.ne)
theorem Bld.set1 {T e : TypeId} {b : Nat} {p v v' : Value} {bs' : List Value} {w : World} (hb : w.heap[b]? = some (.cells #[p, v] T (0, 0))) (hown : w.ownsRow 0 e 1 v' bs'.length bs') (hTe : T ≠ e) : Bld T e b p v' bs' (w.setCell ⟨b, 1, none⟩ v') := by
  obtain ⟨_, v2, h1, h2, h3⟩ := Lib.BuilderAt.put (Nat.zero_le b) hb hown hTe
  have e1 : (w.setCell ⟨b, 1, none⟩ v').heap[b]? = some (.cells #[p, v'] T (0, 0)) := by simp [World.setCell, Array.getElem?_modify, hb]
  rw [e1] at h1
  cases h1
  exact ⟨e1, h2, h3⟩
theorem Kept2.then1 {b : Nat} {v v' : Value} {w w1 w2 : World} (h : Kept2 b v v w w1) (hb : b < w1.heap.size) (hg : w1.grownBy w2 v.ownBlock) (hm : Moved w1 v v') (hv : ∀ k, v.ownBlock = some k → k < w1.heap.size) (x : Value) :
    Kept2 b v v' w (w2.setCell ⟨b, 1, none⟩ x) := by
  refine ⟨hg.os.trans h.os, hg.tape.trans h.tape, hg.output.trans h.output, ?_, fun k hk hkb hkv => ?_, ?_⟩
  · have := hg.size
    have := h.size
    simp [World.setCell]
    omega
  · rw [Below.heap_setCell _ _ _ _ hkb, hg.block k (Nat.lt_of_lt_of_le hk h.size) hkv]
    exact h.block k hk hkb hkv
  · rcases hm with hm | hm
    · exact .inl hm
    · exact .inr ⟨_, hm, h.size⟩
theorem Kept2.alloc {b : Nat} {v : Value} {w w1 : World} (h : Kept2 b v v w w1) (o : Obj) : Kept2 b v v w (w1.alloc o) := by
  have hs : (w1.alloc o).heap.size = w1.heap.size + 1 := by simp
  exact ⟨h.os, h.tape, h.output, by rw [hs]; have := h.size; omega, fun k hk hkb hkv => (Lib.alloc_old w1 o k (Nat.lt_of_lt_of_le hk h.size)).trans (h.block k hk hkb hkv), .inl rfl⟩
/-- What the writing methods lean on, beside their own bodies: the types (as 'String' has them), and what copyCheck does. -/
structure BLays (P : Program) (ρ : Ren) : Prop where
  L : Lays.n169 P ρ
  X : Builder.Extra P ρ
  e240 : ∀ args w, (callFunc (ρ.f 240) args).run P w = .ok (.enter (ρ.f 240) args) w
  used : ∀ (b : Nat) (w : World), w.cell? ⟨b, 0, none⟩ = some (at0 b) → Calls P (ρ.f 240) #[at0 b] w fun e w' => e = .returned (.tuple #[]) ∧ w' = w
  fresh : ∀ (b : Nat) (w : World), w.cell? ⟨b, 0, none⟩ = some (.pointer none) → w.shape? b = some (ρ.t 72, 2) → w.frozen? ⟨b, 0, none⟩ = false → Calls P (ρ.f 240) #[at0 b] w fun e w' => e = .returned (.tuple #[]) ∧ w' = w.setCell ⟨b, 0, none⟩ (at0 b)
theorem copyCheck_kept (B : BLays P ρ) {e : TypeId} {b : Nat} {p v : Value} {bs : List Value} {w : World} (h : Bld (ρ.t 72) e b p v bs w) (hp : p = .pointer none ∨ p = at0 b) :
    Calls P (ρ.f 240) #[at0 b] w fun r w' => r = .returned (.tuple #[]) ∧ Bld (ρ.t 72) e b (at0 b) v bs w' ∧ Kept2 b v v w w' := by
  have hc : w.cell? ⟨b, 0, none⟩ = some p := by rw [Lib.cell_of_heap h.blk]; rfl
  rcases hp with rfl | rfl
  · refine (B.fresh b w hc (by simp [World.shape?, h.blk]) (Lib.frozen_of_heap h.blk 0)).mono ?_
    rintro r w' ⟨rfl, rfl⟩
    exact ⟨rfl, h.set0.1, h.set0.2⟩
  · refine (B.used b w hc).mono ?_
    rintro r w' ⟨rfl, rfl⟩
    exact ⟨rfl, h, ⟨rfl, rfl, rfl, Nat.le_refl _, fun _ _ _ _ => rfl, .inl rfl⟩⟩
set_option maxHeartbeats 2000000 in
set_option maxRecDepth 100000 in
theorem writeByte_kept (B : BLays P ρ) (hf : P.funcs[ρ.f 167]? = some (Body.n167 ρ)) {b : Nat} {p v : Value} {bs : List Value} (c : Int) {w : World} (h : Bld (ρ.t 72) (ρ.t 5) b p v bs w) (hp : p = .pointer none ∨ p = at0 b) (hlen : bs.length + 1 ≤ 140737488355328) :
    Calls P (ρ.f 167) #[at0 b, .int .u8 c] w fun r w' => r = .returned .nilIface ∧ ∃ v', Bld (ρ.t 72) (ρ.t 5) b (at0 b) v' (bs ++ [.int .u8 c]) w' ∧ Kept2 b v v' w w' := by
  have L := B.L
  have X := B.X
  obtain ⟨i0, hi, hz0, hz1, hz2⟩ := info_parts X.infoByte
  have mixed := L.mixed
  have t72 := L.t72; have a72 := L.a72; have z72 := L.z72; have v72 := L.v72; have u72 := run_underlying L.t72
  have t70 := L.t70; have a70 := L.a70; have z70 := L.z70; have v70 := L.v70; have u70 := run_underlying L.t70
  have t5 := X.t5; have a5 := X.a5; have z5 := X.z5; have v5 := X.v5; have u5 := run_underlying X.t5
  have t37 := L.t37; have a37 := L.a37; have z37 := L.z37; have v37 := L.v37; have u37 := run_underlying L.t37
  have t9 := L.t9; have a9 := L.a9; have z9 := L.z9; have v9 := L.v9; have u9 := run_underlying L.t9
  have e240 : ∀ args w, (callFunc (ρ.f 240) args).run P w = .ok (.enter (ρ.f 240) args) w := B.e240
  go_enter hf, Body.n167_ntmps ρ
  go_wp2_with (go_at_fn (ρ.f 240); refine (copyCheck_kept B h hp).mono ?_)
  rintro r w1 ⟨rfl, h1, k1⟩
  have hbk := h1.blk
  have c0 : w1.cell? ⟨b, 0, none⟩ = some (at0 b) := by rw [Lib.cell_of_heap hbk]; rfl
  have c1 : w1.cell? ⟨b, 1, none⟩ = some v := by rw [Lib.cell_of_heap hbk]; rfl
  have hal : ∀ o : Obj, (w1.alloc o).ownsRow 0 (ρ.t 5) 1 v bs.length bs := fun o => h1.own.alloc o
  go_wp2_with (at_builtin; refine wpList_append_byte _ rfl _ _ (ρ.t 37) rfl (ρ.t 5) i0 L.t37 hi hz0 hz1 hz2 _ _ _ rfl (hal _) ⟨w1.heap.size, 0, none⟩ 1 (.int .u8 c) rfl ?c1 rfl ?c3 ?c4 ?_)
  case c1 => simp
  case c3 => unfold maxLen; omega
  case c4 => omega
  intro v' w2 hown' hgrow hmoved
  have hlt := h1.lt
  have hb2 : w2.heap[b]? = some (.cells #[at0 b, v] (ρ.t 72) (0, 0)) := by
    rw [hgrow.block b (by simp; omega) (fun e => h1.ne e.symm), Lib.alloc_old w1 _ b hlt]
    exact hbk
  have d0 : w2.cell? ⟨b, 0, none⟩ = some (at0 b) := by rw [Lib.cell_of_heap hb2]; rfl
  have d1 : w2.cell? ⟨b, 1, none⟩ = some v := by rw [Lib.cell_of_heap hb2]; rfl
  have f1 : w2.frozen? ⟨b, 1, none⟩ = false := Lib.frozen_of_heap hb2 1
  obtain ⟨g, cap, rfl⟩ : ∃ g cap, v' = .slice (some ⟨g, 0, none⟩) (bs.length + 1) cap := by
    rcases hown'.2 with ⟨_, h0⟩ | ⟨g, cap, cur, hv, _⟩
    · omega
    · exact ⟨g, cap, hv⟩
  go_wp2
  go_ret
  exact ⟨rfl, _, Bld.set1 hb2 (bs' := bs ++ [.int .u8 c]) (by simpa using hown') X.neB5, (k1.alloc _).then1 (by simp; omega) hgrow hmoved (fun k hk => by have := (h1.own.lt k hk).2; simp; omega) _⟩
set_option maxHeartbeats 2000000 in
set_option maxRecDepth 100000 in
theorem writeString_kept (B : BLays P ρ) (hf : P.funcs[ρ.f 166]? = some (Body.n166 ρ)) {b : Nat} {p v : Value} {bs : List Value} (s : ByteArray) {w : World} (h : Bld (ρ.t 72) (ρ.t 5) b p v bs w) (hp : p = .pointer none ∨ p = at0 b) (hlen : bs.length + s.size ≤ 140737488355328) :
    Calls P (ρ.f 166) #[at0 b, .string s] w fun r w' => r = .returned (.tuple #[.int .i64 s.size, .nilIface]) ∧ ∃ v', Bld (ρ.t 72) (ρ.t 5) b (at0 b) v' (bs ++ Lib.strCells s) w' ∧ Kept2 b v v' w w' := by
  have L := B.L
  have X := B.X
  obtain ⟨i0, hi, hz0, hz1, hz2⟩ := info_parts X.infoByte
  have mixed := L.mixed
  have t72 := L.t72; have a72 := L.a72; have z72 := L.z72; have v72 := L.v72; have u72 := run_underlying L.t72
  have t70 := L.t70; have a70 := L.a70; have z70 := L.z70; have v70 := L.v70; have u70 := run_underlying L.t70
  have t37 := L.t37; have a37 := L.a37; have z37 := L.z37; have v37 := L.v37; have u37 := run_underlying L.t37
  have t3 := L.t3; have a3 := L.a3; have z3 := L.z3; have v3 := L.v3; have u3 := run_underlying L.t3
  have t9 := L.t9; have a9 := L.a9; have z9 := L.z9; have v9 := L.v9; have u9 := run_underlying L.t9
  have t5 := X.t5; have a5 := X.a5; have z5 := X.z5; have v5 := X.v5; have u5 := run_underlying X.t5
  have e240 : ∀ args w, (callFunc (ρ.f 240) args).run P w = .ok (.enter (ρ.f 240) args) w := B.e240
  go_enter hf, Body.n166_ntmps ρ
  go_wp2_with (go_at_fn (ρ.f 240); refine (copyCheck_kept B h hp).mono ?_)
  rintro r w1 ⟨rfl, h1, k1⟩
  have hbk := h1.blk
  have hlt := h1.lt
  have c0 : w1.cell? ⟨b, 0, none⟩ = some (at0 b) := by rw [Lib.cell_of_heap hbk]; rfl
  have c1 : w1.cell? ⟨b, 1, none⟩ = some v := by rw [Lib.cell_of_heap hbk]; rfl
  go_wp2_with (at_builtin; refine wpList_append_text _ rfl _ _ (ρ.t 37) (ρ.t 9) rfl (ρ.t 5) i0 L.t37 L.t9 hi hz0 hz1 hz2 _ _ _ rfl h1.own s rfl ?c3 ?c4 ?_)
  case c3 => unfold maxLen; omega
  case c4 => omega
  intro v' w2 hown' hgrow hmoved
  have hb2 : w2.heap[b]? = some (.cells #[at0 b, v] (ρ.t 72) (0, 0)) := by
    rw [hgrow.block b hlt (fun e => h1.ne e.symm)]
    exact hbk
  have d0 : w2.cell? ⟨b, 0, none⟩ = some (at0 b) := by rw [Lib.cell_of_heap hb2]; rfl
  have d1 : w2.cell? ⟨b, 1, none⟩ = some v := by rw [Lib.cell_of_heap hb2]; rfl
  have f1 : w2.frozen? ⟨b, 1, none⟩ = false := Lib.frozen_of_heap hb2 1
  obtain ⟨ao, n', cap, rfl⟩ : ∃ ao n' cap, v' = .slice ao n' cap := by
    rcases hown'.2 with ⟨hv, _⟩ | ⟨g, cap, cur, hv, _⟩
    · exact ⟨_, _, _, hv⟩
    · exact ⟨_, _, _, hv⟩
  go_wp2
  go_ret2
  exact ⟨rfl, _, Bld.set1 hb2 (bs' := bs ++ Lib.strCells s) (by simpa [Lib.strCells_length] using hown') X.neB5, k1.then1 hlt hgrow hmoved (fun k hk => (h1.own.lt k hk).2) _⟩
set_option maxHeartbeats 2000000 in
set_option maxRecDepth 100000 in
theorem string_walk (L : Lays.n169 P ρ) (X : Builder.Extra P ρ) {b n cap : Nat} {ao q : Option Addr} {s : ByteArray} {w w1 wr : World} (c0 : w.cell? ⟨b, 1, none⟩ = some (.slice ao n cap)) (c1 : w.drew.cell? ⟨b, 1, none⟩ = some (.slice ao n cap)) (c2 : w1.cell? ⟨b, 1, none⟩ = some (.slice ao n cap))
    (hSD : (Builtin.unsafeSliceData_ #[(ρ.t 37)] (ρ.t 127) #[.slice ao n cap]).run P w.drew = .ok (.pointer q) w1) (hUS : (Builtin.unsafeString_ #[(ρ.t 127), (ρ.t 3)] (ρ.t 9) #[.pointer q, .int .i64 n]).run P w1 = .ok (.string s) wr) :
    Calls P (ρ.f 169) #[at0 b] w fun r w' => r = .returned (.string s) ∧ w' = wr := by
  have mixed := L.mixed
  have t72 := L.t72; have a72 := L.a72; have z72 := L.z72; have v72 := L.v72; have u72 := run_underlying L.t72
  have t70 := L.t70; have a70 := L.a70; have z70 := L.z70; have v70 := L.v70; have u70 := run_underlying L.t70
  have t37 := L.t37; have a37 := L.a37; have z37 := L.z37; have v37 := L.v37; have u37 := run_underlying L.t37
  have t127 := L.t127; have a127 := L.a127; have z127 := L.z127; have v127 := L.v127; have u127 := run_underlying L.t127
  have t3 := L.t3; have a3 := L.a3; have z3 := L.z3; have v3 := L.v3; have u3 := run_underlying L.t3
  have t9 := L.t9; have a9 := L.a9; have z9 := L.z9; have v9 := L.v9; have u9 := run_underlying L.t9
  have t5 := X.t5; have a5 := X.a5; have z5 := X.z5; have v5 := X.v5; have u5 := run_underlying X.t5
  go_enter L.f169, Body.n169_ntmps ρ
  go_wp2
  go_region_o
  all_goals (go_wp2; go_ret; exact ⟨rfl, rfl⟩)
theorem freeze_kept {w : World} {b g n : Nat} {v : Value} (hv : v.ownBlock = some g) : Kept2 b v v w (w.drew.freeze ⟨g, 0, none⟩ n) := by
  unfold World.freeze
  split
  · exact ⟨rfl, rfl, rfl, Nat.le_refl _, fun _ _ _ _ => rfl, .inl rfl⟩
  · refine ⟨rfl, rfl, rfl, by simp, fun k hk hkb hkv => ?_, .inl rfl⟩
    rw [hv] at hkv
    simp only [Array.getElem?_modify]
    rw [if_neg (fun e => hkv (by rw [e]))]
    rfl
theorem string_kept (L : Lays.n169 P ρ) (X : Builder.Extra P ρ) {b : Nat} {p v : Value} {l : List UInt8} {w : World} (h : Bld (ρ.t 72) (ρ.t 5) b p v (Lib.byteCells l) w) :
    Calls P (ρ.f 169) #[at0 b] w fun r w' => r = .returned (.string ⟨l.toArray⟩) ∧ Kept2 b v v w w' := by
  have hm : maxLen = 9223372036854775807 := by decide
  have hc : w.cell? ⟨b, 1, none⟩ = some v := by rw [Lib.cell_of_heap h.blk]; rfl
  have hown := h.own
  rw [Lib.byteCells_length] at hown
  rcases hown.2 with ⟨rfl, h0⟩ | ⟨g, cap, cur, rfl, hbg, hg, hnc, hcm, hcs, htake⟩
  · obtain rfl := List.eq_nil_of_length_eq_zero h0
    refine (string_walk L X (q := none) (s := ⟨#[]⟩) (w1 := w.drew) (wr := w.drew) hc hc hc rfl rfl).mono ?_
    rintro r w' ⟨rfl, rfl⟩
    exact ⟨rfl, ⟨rfl, rfl, rfl, Nat.le_refl _, fun _ _ _ _ => rfl, .inl rfl⟩⟩
  · have hsh : w.drew.shape? g = some (ρ.t 5, cur.size) := by
      have hg' : w.drew.heap[g]? = some (.cells cur (ρ.t 5) (0, 0)) := hg
      simp [World.shape?, hg']
    by_cases hl : l = []
    · subst hl
      by_cases hc0 : cap = 0
      · subst hc0
        have hc2 : (w.drew.alloc (.view ⟨g, 0, none⟩ (ρ.t 5))).cell? ⟨b, 1, none⟩ = some (.slice (some ⟨g, 0, none⟩) 0 0) := by
          have : (w.drew.alloc (.view ⟨g, 0, none⟩ (ρ.t 5))).heap[b]? = _ := (Lib.alloc_old w.drew _ b h.lt).trans h.blk
          rw [Lib.cell_of_heap this]; rfl
        refine (string_walk L X (s := ⟨#[]⟩) hc hc hc2 (Lib.run_unsafeSliceData_zero w.drew _ _ (ρ.t 5) L.t127 ⟨g, 0, none⟩ 0 (ρ.t 5, cur.size) hsh) (Any.unsafeString_none L X _ _)).mono ?_
        rintro r w' ⟨rfl, rfl⟩
        refine ⟨rfl, ⟨rfl, rfl, rfl, ?_, fun k hk _ _ => Lib.alloc_old w.drew _ k hk, .inl rfl⟩⟩
        show w.heap.size ≤ (w.drew.alloc _).heap.size
        simp
      · refine (string_walk L X (s := ⟨#[]⟩) (w1 := w.drew) (wr := w.drew) hc hc hc (Lib.run_unsafeSliceData_row _ _ _ _ _ _ hc0) (Any.unsafeString_none L X _ _)).mono ?_
        rintro r w' ⟨rfl, rfl⟩
        exact ⟨rfl, ⟨rfl, rfl, rfl, Nat.le_refl _, fun _ _ _ _ => rfl, .inl rfl⟩⟩
    · have hl0 : l.length ≠ 0 := fun e => hl (List.eq_nil_of_length_eq_zero e)
      have hUS : (Builtin.unsafeString_ #[(ρ.t 127), (ρ.t 3)] (ρ.t 9) #[.pointer (some ⟨g, 0, none⟩), .int .i64 l.length]).run P w.drew = .ok (.string ⟨l.toArray⟩) (w.drew.freeze ⟨g, 0, none⟩ l.length) := by
        refine Lib.run_unsafeString_row w.drew (ρ.t 127) (ρ.t 3) (ρ.t 9) (ρ.t 5) L.t127 X.cellsByte g cur.size hsh l hl (by omega) (by omega) fun j x hx => ?_
        have := hown.cells (g := g) rfl j (.int .u8 x.toNat) (by simp [Lib.byteCells, hx])
        exact this
      refine (string_walk L X (w1 := w.drew) hc hc hc (Lib.run_unsafeSliceData_row _ _ _ _ _ _ (by omega)) hUS).mono ?_
      rintro r w' ⟨rfl, rfl⟩
      exact ⟨rfl, freeze_kept rfl⟩
end
end Go.Proofs.YtolmbcngghkfiaaDoorBv
