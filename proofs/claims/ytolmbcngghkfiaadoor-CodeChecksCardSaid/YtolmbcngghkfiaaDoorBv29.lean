/- The calculus: strings.Builder's methods, by what they do to its two blocks. It proves nothing of any program. -/
import Derived.Test.YtolmbcngghkfiaaDoorBv27
import Derived.Test.YtolmbcngghkfiaaDoorBv28
namespace Go.Proofs.YtolmbcngghkfiaaDoorBv
open Go
set_option linter.unusedVariables false
set_option linter.unusedSimpArgs false

/-- a builder and its bytes, as the first two blocks -/
abbrev bldH (T e : TypeId) (z : Bool) (l : List UInt8) : Heap := upd (upd (fun _ => none) 0 (some (.bld T z 1 l.length))) 1 (bufB z e l)
/-- .. behind a method: the bytes are told anew -/
abbrev bldH2 (T e : TypeId) (z : Bool) (l : List UInt8) : Heap := upd (upd (fun _ => none) 0 (some (.bld T z 2 l.length))) 2 (bufB z e l)

section
variable {Γ : Glob} {E : Nat → Prop} {w w' : World} {μ κ : Nat → Nat} {T e : TypeId} {z : Bool} {l : List UInt8}
theorem bld_open (hz : z = true → l = []) (H : HeapOK Γ E w μ κ (bldH T e z l) 2) : ∃ p v, Bld T e (μ 0) p v (Lib.byteCells l) w ∧ (p = .pointer none ∨ p = at0 (μ 0)) ∧ (z = true → v.ownBlock = none) ∧ (z = false → v.ownBlock = some (μ 1)) := by
  obtain ⟨p, v, h0, h1, hc, h2, h3⟩ := H.blk 0 (.bld T z 1 l.length) rfl
  refine ⟨p, v, ⟨h0, ?_, ?_⟩, h1, fun h => by rw [h2 h]; rfl, fun h => by rw [h3 h]; rfl⟩
  · rw [Lib.byteCells_length]
    cases z with
    | true =>
      have := hz rfl
      subst this
      rw [h2 rfl]
      exact World.ownsRow_nil _ _ _ _
    | false =>
      obtain ⟨C, g0, g1, g2, g3, g4⟩ := H.blk 1 (.buf e l) rfl
      refine ⟨by rw [Lib.byteCells_length, Nat.mul_one], .inr ⟨μ 1, κ 1, C, h3 rfl, Nat.zero_le _, g0, g2, g3, by rw [Nat.mul_one]; exact g1, by rw [Nat.mul_one]; exact g4⟩⟩
  · cases z with
    | true => rw [h2 rfl]; simp [Value.ownBlock]
    | false =>
      rw [h3 rfl]
      intro he
      have he : μ 1 = μ 0 := Option.some.inj he
      have := H.inj 1 0 (.buf e l) (.bld T false 1 l.length) rfl rfl he
      cases this
theorem bld_kept (H : HeapOK Γ E w μ κ (bldH T e z l) 2) {v v' : Value} (k : Kept2 (μ 0) v v' w w') (hv1 : z = true → v.ownBlock = none) (hv0 : z = false → v.ownBlock = some (μ 1)) :
    (∀ i, i < w.heap.size → (∀ b x, bldH T e z l b = some x → μ b ≠ i) → w'.heap[i]? = w.heap[i]?) ∧ ∀ i, E i → w'.heap[i]? = w.heap[i]? := by
  have main : ∀ i, i < w.heap.size → (∀ b x, bldH T e z l b = some x → μ b ≠ i) → w'.heap[i]? = w.heap[i]? := by
    intro i hi hne
    refine k.block i hi (Ne.symm (hne 0 _ rfl)) ?_
    cases z with
    | true => rw [hv1 rfl]; simp
    | false =>
      rw [hv0 rfl]
      intro he
      exact hne 1 (.buf e l) rfl (Option.some.inj he).symm
  refine ⟨main, fun i hi => main i (H.lt i hi) fun b x hb hbi => H.res b x hb (by rw [hbi]; exact hi)⟩
theorem bld_after {r : List UInt8} (H : HeapOK Γ E w μ κ (bldH T e z l) 2) {v v' : Value} (k : Kept2 (μ 0) v v' w w') (hv1 : z = true → v.ownBlock = none) (hv0 : z = false → v.ownBlock = some (μ 1)) {p : Value} (hp : p = .pointer none ∨ p = at0 (μ 0)) (B : Bld T e (μ 0) p v' (Lib.byteCells r) w') :
    ∃ z' μ' κ', (z' = true → r = []) ∧ HeapOK Γ E w' μ' κ' (bldH2 T e z' r) 3 ∧ From E (ctx E w μ κ (bldH T e z l) 2) (ctx E w' μ' κ' (bldH2 T e z' r) 3) := by
  obtain ⟨hm, hE⟩ := bld_kept H k hv1 hv0
  -- where the bytes lie
  have hplace : ∃ z' g cap, (z' = true → r = [] ∧ v' = .slice none 0 0) ∧ (z' = false → v' = .slice (some ⟨g, 0, none⟩) r.length cap ∧ g ≠ μ 0 ∧ ((z = false ∧ g = μ 1) ∨ w.heap.size ≤ g) ∧ ∃ C : Array Value, w'.heap[g]? = some (.cells C e (0, 0)) ∧ C.size = cap ∧ r.length ≤ cap ∧ cap ≤ maxLen ∧ C.toList.take r.length = r.map fun x => Value.int .u8 x.toNat) := by
    have hown := B.own
    rw [Lib.byteCells_length] at hown
    rcases hown.2 with ⟨rfl, h0⟩ | ⟨g, cap, cur, rfl, hbg, hg, hnc, hcm, hcs, htake⟩
    · exact ⟨true, 0, 0, fun _ => ⟨List.eq_nil_of_length_eq_zero h0, rfl⟩, fun h => by cases h⟩
    · refine ⟨false, g, cap, (fun h => by cases h), fun _ => ⟨rfl, fun hg0 => B.ne (by rw [hg0]; rfl), ?_, cur, hg, by rw [hcs, Nat.mul_one], hnc, hcm, by rw [Nat.mul_one] at htake; exact htake⟩⟩
      rcases k.moved with hmv | ⟨g', hg', hge⟩
      · cases z with
        | true => rw [hv1 rfl] at hmv; cases hmv
        | false => rw [hv0 rfl] at hmv; exact .inl ⟨rfl, Option.some.inj hmv⟩
      · have : g = g' := Option.some.inj hg'
        subst this
        exact .inr hge
  obtain ⟨z', g, cap, ht, hf⟩ := hplace
  have hμ0 : (upd μ 2 g) 0 = μ 0 := rfl
  have hμ2 : (upd μ 2 g) 2 = g := rfl
  have gE : z' = false → ¬ E g := by
    intro hz'
    obtain ⟨_, _, hgg, _⟩ := hf hz'
    rcases hgg with ⟨hz, rfl⟩ | hge
    · subst hz; exact H.res 1 (.buf e l) rfl
    · intro hEg; have := H.lt g hEg; omega
  have cases2 : ∀ b x, bldH2 T e z' r b = some x → (b = 0 ∧ x = .bld T z' 2 r.length) ∨ (b = 2 ∧ z' = false ∧ x = .buf e r) := by
    intro b x hb
    by_cases h2 : b = 2
    · subst h2
      have hb : bufB z' e r = some x := hb
      cases z' with
      | true => cases hb
      | false => cases hb; exact .inr ⟨rfl, rfl, rfl⟩
    · have hb : upd (fun _ => none) 0 (some (.bld T z' 2 r.length)) b = some x := by rw [← hb]; exact (upd_ne _ _ h2).symm
      by_cases h0 : b = 0
      · subst h0; cases hb; exact .inl ⟨rfl, rfl⟩
      · rw [upd_ne _ _ h0] at hb; cases hb
  have L : Ctx.Le (ctx E w μ κ (bldH T e z l) 2) (ctx E w' (upd μ 2 g) (upd κ 2 cap) (bldH2 T e z' r) 3) := by
    refine ⟨Nat.le_succ 2, fun b hb => upd_ne _ _ (Nat.ne_of_lt hb), fun b hb => upd_ne _ _ (Nat.ne_of_lt hb), fun i hi => ⟨Nat.lt_of_lt_of_le hi.1 k.size, hi.2.1, fun b x hb => ?_⟩, fun i hi => hm i hi.1 hi.2.2⟩
    rcases cases2 b x hb with ⟨rfl, rfl⟩ | ⟨rfl, hz', rfl⟩
    · exact hi.2.2 0 _ rfl
    · rw [hμ2]
      obtain ⟨_, _, hgg, _⟩ := hf hz'
      rcases hgg with ⟨hz, rfl⟩ | hge
      · subst hz; exact hi.2.2 1 (.buf e l) rfl
      · have := hi.1
        intro he
        subst he
        exact absurd this (Nat.not_lt.2 hge)
  refine ⟨z', upd μ 2 g, upd κ 2 cap, fun h => (ht h).1, ⟨fun i hi => Nat.lt_of_lt_of_le (H.lt i hi) k.size, fun b x hb => ?_, fun b b' x x' hb hb' he => ?_, fun b x hb => ?_, fun b x hb => ?_, fun g' => (H.glob g').mono L⟩, ⟨L, k.size, k.os, k.tape, k.output, fun i hi _ => hE i hi⟩⟩
  · rcases cases2 b x hb with ⟨rfl, _⟩ | ⟨rfl, _⟩ <;> decide
  · rcases cases2 b x hb with ⟨rfl, rfl⟩ | ⟨rfl, hz', rfl⟩ <;> rcases cases2 b' x' hb' with ⟨rfl, rfl⟩ | ⟨rfl, hz'', rfl⟩
    · rfl
    · exact absurd (show g = μ 0 from he.symm) (hf hz'').2.1
    · exact absurd (show g = μ 0 from he) (hf hz').2.1
    · rfl
  · rcases cases2 b x hb with ⟨rfl, rfl⟩ | ⟨rfl, hz', rfl⟩
    · exact H.res 0 _ rfl
    · exact gE hz'
  · rcases cases2 b x hb with ⟨rfl, rfl⟩ | ⟨rfl, hz', rfl⟩
    · exact ⟨p, v', B.blk, hp, Nat.lt_succ_self 2, fun h => (ht h).2, fun h => (hf h).1⟩
    · obtain ⟨_, _, _, C, c0, c1, c2, c3, c4⟩ := hf hz'
      exact ⟨C, c0, c1, c2, c3, c4⟩
end
section
variable {P : Program} {ρ : Shelf.Ren} {Γ : Glob} {z : Bool} {l r : List UInt8} {c : Int}
def bWriteByte? (l : List UInt8) (c : Int) : Option (List UInt8) := if l.length + 1 ≤ 140737488355328 ∧ 0 ≤ c ∧ c < 256 then some (l ++ [UInt8.ofNat c.toNat]) else none
def bWriteString? (l s : List UInt8) : Option (List UInt8) := if l.length + s.length ≤ 140737488355328 then some (l ++ s) else none
/-- what a builder's method leaves behind it -/
abbrev bPost (T e : TypeId) (v0 : AV) (r : List UInt8) : AV → Heap → Nat → Prop := fun v h' n' => ∃ z : Bool, (z = true → r = []) ∧ v = v0 ∧ h' = bldH2 T e z r ∧ n' = 3
theorem relRef {K : Ctx} {b sz : Nat} {v : Value} (h : RelV K (.c (.ref b sz 0 0)) v) : v = .pointer (some ⟨K.μ b, 0, none⟩) := by
  cases h with
  | c h => cases h with
    | ref h => simp
theorem bWriteByte_ok (B0 : BLays P ρ) (hf : P.funcs[ρ.f 167]? = some (Body.n167 ρ)) (hz : z = true → l = []) (h : bWriteByte? l c = some r) :
    ACalls P Γ (ρ.f 167) [.c (.ref 0 2 0 0), .c (.val (.int .u8 c))] (bldH (ρ.t 72) (ρ.t 5) z l) 2 (bPost (ρ.t 72) (ρ.t 5) (.c (.val .nilIface)) r) := by
  unfold bWriteByte? at h
  split at h
  · rename_i hn
    cases h
    intro E w μ κ cargs H hsz hrel
    have e0 := relRef (hrel 0 _ rfl)
    have e1 := relI (hrel 1 _ rfl)
    obtain ⟨p, v, B, hp, hv1, hv0⟩ := bld_open hz H
    rw [arr2 hsz, e0, e1]
    refine (writeByte_kept B0 hf c B hp (by rw [Lib.byteCells_length]; omega)).mono ?_
    rintro re w' ⟨rfl, v', B', k⟩
    have hb : Lib.byteCells l ++ [Value.int .u8 c] = Lib.byteCells (l ++ [UInt8.ofNat c.toNat]) := by
      simp only [Lib.byteCells, List.map_append, List.map_cons, List.map_nil]
      congr 2
      have : (UInt8.ofNat c.toNat).toNat = c.toNat := by simp; omega
      rw [this]
      congr 1
      omega
    rw [hb] at B'
    obtain ⟨z', μ', κ', g1, g2, g3⟩ := bld_after H k hv1 hv0 (.inr rfl) B'
    exact ⟨_, _, _, _, μ', κ', rfl, ⟨z', g1, rfl, rfl, rfl⟩, g2, g3, .c (.val rfl)⟩
  · cases h
theorem bWriteString_ok {s : List UInt8} (B0 : BLays P ρ) (hf : P.funcs[ρ.f 166]? = some (Body.n166 ρ)) (hz : z = true → l = []) (h : bWriteString? l s = some r) :
    ACalls P Γ (ρ.f 166) [.c (.ref 0 2 0 0), .c (.str s)] (bldH (ρ.t 72) (ρ.t 5) z l) 2 (bPost (ρ.t 72) (ρ.t 5) (.tup [.c (.val (.int .i64 (s.length : Int))), .c (.val .nilIface)]) r) := by
  unfold bWriteString? at h
  split at h
  · rename_i hn
    cases h
    intro E w μ κ cargs H hsz hrel
    have e0 := relRef (hrel 0 _ rfl)
    obtain ⟨t, ht, e1⟩ := relS (hrel 1 _ rfl)
    subst ht
    obtain ⟨p, v, B, hp, hv1, hv0⟩ := bld_open hz H
    rw [arr2 hsz, e0, e1]
    have hts : t.data.toList.length = t.size := rfl
    refine (writeString_kept B0 hf t B hp (by rw [Lib.byteCells_length]; omega)).mono ?_
    rintro re w' ⟨rfl, v', B', k⟩
    have hb : Lib.byteCells l ++ Lib.strCells t = Lib.byteCells (l ++ t.data.toList) := by
      simp only [Lib.byteCells, Lib.strCells, List.map_append]
    rw [hb] at B'
    obtain ⟨z', μ', κ', g1, g2, g3⟩ := bld_after H k hv1 hv0 (.inr rfl) B'
    exact ⟨_, _, _, _, μ', κ', rfl, ⟨z', g1, rfl, rfl, rfl⟩, g2, g3, tup2 (.c (.val rfl)) (.c (.val rfl))⟩
  · cases h
theorem bLen_ok (L : Lays.n170 P ρ) (hz : z = true → l = []) :
    ACalls P Γ (ρ.f 170) [.c (.ref 0 2 0 0)] (bldH (ρ.t 72) (ρ.t 5) z l) 2 (bPost (ρ.t 72) (ρ.t 5) (.c (.val (.int .i64 (l.length : Int)))) l) := by
  intro E w μ κ cargs H hsz hrel
  have e0 := relRef (hrel 0 _ rfl)
  obtain ⟨p, v, B, hp, hv1, hv0⟩ := bld_open hz H
  rw [arr1 hsz, e0]
  have hb : Lib.IsBuilder (ρ.t 72) (ρ.t 5) 0 (μ 0) (Lib.byteCells l) w := by
    have : Lib.BuilderAt (ρ.t 72) (ρ.t 5) 0 (μ 0) p (Lib.byteCells l) w := ⟨Nat.zero_le _, v, B.blk, B.own, B.ne⟩
    rcases hp with rfl | rfl
    · exact .inl this
    · exact .inr this
  refine (Any.Builder_Len L 0 (μ 0) (Lib.byteCells l) w hb).mono ?_
  rintro re w' ⟨rfl, rfl⟩
  obtain ⟨z', μ', κ', g1, g2, g3⟩ := bld_after H (v := v) (v' := v) ⟨rfl, rfl, rfl, Nat.le_refl _, fun _ _ _ _ => rfl, .inl rfl⟩ hv1 hv0 hp B
  rw [Lib.byteCells_length]
  exact ⟨_, _, _, _, μ', κ', rfl, ⟨z', g1, rfl, rfl, rfl⟩, g2, g3, .c (.val rfl)⟩
theorem bString_ok (L : Lays.n169 P ρ) (X : Builder.Extra P ρ) (hz : z = true → l = []) :
    ACalls P Γ (ρ.f 169) [.c (.ref 0 2 0 0)] (bldH (ρ.t 72) (ρ.t 5) z l) 2 (fun v h' n' => v = .c (.str l) ∧ h' = (fun _ => none) ∧ n' = 2) := by
  intro E w μ κ cargs H hsz hrel
  have e0 := relRef (hrel 0 _ rfl)
  obtain ⟨p, v, B, hp, hv1, hv0⟩ := bld_open hz H
  rw [arr1 hsz, e0]
  refine (string_kept L X B).mono ?_
  rintro re w' ⟨rfl, k⟩
  obtain ⟨hm, hE⟩ := bld_kept H k hv1 hv0
  have Lc : Ctx.Le (ctx E w μ κ (bldH (ρ.t 72) (ρ.t 5) z l) 2) (ctx E w' μ κ (fun _ => none) 2) := ⟨Nat.le_refl _, fun _ _ => rfl, fun _ _ => rfl, fun i hi => ⟨Nat.lt_of_lt_of_le hi.1 k.size, hi.2.1, fun b x hb => by cases hb⟩, fun i hi => hm i hi.1 hi.2.2⟩
  refine ⟨_, _, _, _, μ, κ, rfl, ⟨rfl, rfl, rfl⟩, ⟨fun i hi => Nat.lt_of_lt_of_le (H.lt i hi) k.size, fun b x hb => (by cases hb), fun b b' x x' hb => (by cases hb), fun b x hb => (by cases hb), fun b x hb => (by cases hb), fun g' => (H.glob g').mono Lc⟩, ⟨Lc, k.size, k.os, k.tape, k.output, fun i hi _ => hE i hi⟩, ?_⟩
  exact .c (.str rfl)
end
end Go.Proofs.YtolmbcngghkfiaaDoorBv
