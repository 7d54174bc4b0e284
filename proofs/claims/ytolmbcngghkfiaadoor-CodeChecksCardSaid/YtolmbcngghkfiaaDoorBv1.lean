/- A calculus of my own over the model's rules for code: what a call reads is told by its content, what it makes lies in a heap of its own. This text: values, memory, and what is kept. It proves nothing of any program. -/
import Derived.Below
import Derived.Calls
import Derived.Laws.World
namespace Go.Proofs.YtolmbcngghkfiaaDoorBv
open Go

/-- One cell: an address-free value; a pointer into a live block (element i, cell j); a slice of a live block; a slice that is only read, by its content; a pointer to what is only read; an empty slice without room; a function value. -/
inductive Cel where
  | val (v : Value)
  | str (l : List UInt8)
  | ref (b sz i j : Nat)
  | own (b sz off len m : Nat)
  | ro (nl : Bool) (sz : Nat) (xs : List (List Cel))
  | rop (cs : List Cel)
  | emp (sz : Nat)
  | fn (f : Fn) (first captured : List Cel)
  | mp (b : Nat)   -- a map of the call's own
  | opq   -- an interface that is not nil: what it holds is not told
  deriving Inhabited

inductive AV where
  | c (x : Cel)
  | agg (xs : List Cel)
  | tup (xs : List AV)
  deriving Inhabited

def AV.cells : AV → List Cel
  | .c x => [x]
  | .agg xs => xs
  | .tup _ => []

def plain : Value → Bool
  | .bool _ | .int _ _ | .float _ _ | .complex _ _ _ | .pointer none | .map none | .chan none | .nilFunc | .nilIface => true
  | .iface _ v => plain v
  | _ => false

def one : Value → Bool
  | .agg _ | .tuple _ => false
  | _ => true

theorem plain_one {v : Value} (h : plain v = true) : one v = true := by
  cases v <;> simp_all [plain, one]

structure Ctx where
  w : World
  S : Nat → Prop
  μ : Nat → Nat
  κ : Nat → Nat
  n : Nat
  /-- what is put off to the end of the function that runs -/
  ds : List Deferred := []

/-- The same memory, without what is the call's own. -/
def Ctx.bare (K : Ctx) : Ctx := { K with n := 0, μ := fun _ => 0, κ := fun _ => 0 }

inductive RelC : Ctx → Cel → Value → Prop
  | val {K : Ctx} {v : Value} (h : plain v = true) : RelC K (.val v) v
  | str {K : Ctx} {l : List UInt8} {s : ByteArray} (h : s.data.toList = l) : RelC K (.str l) (.string s)
  | ref {K : Ctx} {b sz i j : Nat} (h : b < K.n) : RelC K (.ref b sz i j) (.pointer (some ⟨K.μ b, i * sz + j, none⟩))
  | own {K : Ctx} {b sz off len m cap o : Nat} (h : b < K.n) (hl : len ≤ m) (hm : m ≤ cap) (ho : o = off * sz ∨ cap = 0) (hk : off + cap ≤ K.κ b) :
      RelC K (.own b sz off len m) (.slice (some ⟨K.μ b, o, none⟩) len cap)
  | ro {K : Ctx} {nl : Bool} {sz c : Nat} {xs : List (List Cel)} {A : Option Addr} (f : Nat → Nat → Value) (hn : nl = true → A = none) (hc : xs.length ≤ c) (hz : A = none → c = 0)
      (hl : ∀ (i : Nat) (e : List Cel), xs[i]? = some e → e.length = sz)
      (hs : ∀ ad, A = some ad → xs ≠ [] → sz ≠ 0 → K.S ad.block)
      (hcell : ∀ (i : Nat) (e : List Cel), xs[i]? = some e → ∀ (j : Nat) (x : Cel), e[j]? = some x → (A.bind fun ad => K.w.cell? (ad.add (i * sz + j))) = some (f i j))
      (hrel : ∀ (i : Nat) (e : List Cel), xs[i]? = some e → ∀ (j : Nat) (x : Cel), e[j]? = some x → RelC K.bare x (f i j)) :
      RelC K (.ro nl sz xs) (.slice A xs.length c)
  | rop {K : Ctx} {cs : List Cel} {ad : Addr} (f : Nat → Value) (hs : cs ≠ [] → K.S ad.block)
      (hcell : ∀ (j : Nat) (x : Cel), cs[j]? = some x → K.w.cell? (ad.add j) = some (f j))
      (hrel : ∀ (j : Nat) (x : Cel), cs[j]? = some x → RelC K.bare x (f j)) : RelC K (.rop cs) (.pointer (some ad))
  | emp {K : Ctx} {sz : Nat} {A : Option Addr} : RelC K (.emp sz) (.slice A 0 0)
  | fn {K : Ctx} {f : Fn} {first captured : List Cel} {vs us : Array Value} (h1 : first.length = vs.size) (h2 : captured.length = us.size)
      (r1 : ∀ (i : Nat) (x : Cel), first[i]? = some x → RelC K x (vs.getD i undef)) (r2 : ∀ (i : Nat) (x : Cel), captured[i]? = some x → RelC K x (us.getD i undef)) :
      RelC K (.fn f first captured) (.func f vs us)
  | mp {K : Ctx} {b : Nat} (h : b < K.n) : RelC K (.mp b) (.map (some (K.μ b)))
  | opq {K : Ctx} {T : TypeId} {v : Value} : RelC K .opq (.iface T v)

theorem RelC.one {K : Ctx} {x : Cel} {v : Value} (h : RelC K x v) : one v = true := by
  cases h with
  | val h => exact plain_one h
  | _ => rfl

inductive RelV (K : Ctx) : AV → Value → Prop
  | c {x : Cel} {v : Value} (h : RelC K x v) : RelV K (.c x) v
  | agg {xs : List Cel} {vs : Array Value} (hl : xs.length = vs.size) (r : ∀ (i : Nat) (x : Cel), xs[i]? = some x → RelC K x (vs.getD i undef)) : RelV K (.agg xs) (.agg vs)
  | tup {xs : List AV} {vs : Array Value} (hl : xs.length = vs.size) (r : ∀ (i : Nat) (x : AV), xs[i]? = some x → RelV K x (vs.getD i undef)) : RelV K (.tup xs) (.tuple vs)

structure Ctx.Le (K K' : Ctx) : Prop where
  n : K.n ≤ K'.n
  μ : ∀ b, b < K.n → K'.μ b = K.μ b
  κ : ∀ b, b < K.n → K'.κ b = K.κ b
  S : ∀ k, K.S k → K'.S k
  heap : ∀ k, K.S k → K'.w.heap[k]? = K.w.heap[k]?

theorem Ctx.Le.refl (K : Ctx) : Ctx.Le K K := ⟨Nat.le_refl _, fun _ _ => rfl, fun _ _ => rfl, fun _ h => h, fun _ _ => rfl⟩
theorem Ctx.Le.trans {A B C : Ctx} (h : Ctx.Le A B) (k : Ctx.Le B C) : Ctx.Le A C :=
  ⟨Nat.le_trans h.n k.n, fun b hb => (k.μ b (Nat.lt_of_lt_of_le hb h.n)).trans (h.μ b hb), fun b hb => (k.κ b (Nat.lt_of_lt_of_le hb h.n)).trans (h.κ b hb),
    fun b hb => k.S b (h.S b hb), fun b hb => (k.heap b (h.S b hb)).trans (h.heap b hb)⟩

theorem cell_of_block {w w' : World} {a : Addr} (h : w'.heap[a.block]? = w.heap[a.block]?) : w'.cell? a = w.cell? a := by
  unfold World.cell?
  rw [h]

theorem add_block (a : Addr) (n : Nat) : (a.add n).block = a.block := by
  unfold Addr.add
  split <;> rfl

set_option linter.unusedVariables false
theorem Ctx.Le.bare {K K' : Ctx} (L : Ctx.Le K K') : Ctx.Le K.bare K'.bare :=
  ⟨Nat.le_refl _, fun b h => absurd h (Nat.not_lt_zero _), fun b h => absurd h (Nat.not_lt_zero _), L.S, L.heap⟩
theorem Ctx.bare_le (K : Ctx) : Ctx.Le K.bare K :=
  ⟨Nat.zero_le _, fun b h => absurd h (Nat.not_lt_zero _), fun b h => absurd h (Nat.not_lt_zero _), fun _ h => h, fun _ _ => rfl⟩

theorem RelC.mono {K K' : Ctx} {x : Cel} {v : Value} (h : RelC K x v) (L : Ctx.Le K K') : RelC K' x v := by
  induction h generalizing K' with
  | val h => exact .val h
  | str h => exact .str h
  | ref h => rw [← L.μ _ h]; exact .ref (Nat.lt_of_lt_of_le h L.n)
  | own h hl hm ho hk => rw [← L.μ _ h]; exact .own (Nat.lt_of_lt_of_le h L.n) hl hm ho (by rw [L.κ _ h]; exact hk)
  | @ro K nl sz c xs A f hn hc hz hl hs hcell hrel ih =>
    refine .ro f hn hc hz hl (fun ad e1 e2 e3 => L.S _ (hs ad e1 e2 e3)) (fun i e hi j x hj => ?_) (fun i e hi j x hj => ih i e hi j x hj L.bare)
    have h1 := hcell i e hi j x hj
    cases A with
    | none => exact h1
    | some ad =>
      have hb : K.S ad.block := hs ad rfl (by intro h0; rw [h0] at hi; simp at hi) (by
        intro h0
        have := hl i e hi
        rw [h0] at this
        have : e = [] := List.eq_nil_of_length_eq_zero this
        rw [this] at hj
        simp at hj)
      simp only [Option.bind_some] at h1 ⊢
      rw [← h1]
      exact cell_of_block (by rw [add_block]; exact L.heap _ hb)
  | @rop K cs ad f hs hcell hrel ih =>
    refine .rop f (fun h0 => L.S _ (hs h0)) (fun j x hj => ?_) (fun j x hj => ih j x hj L.bare)
    have hb : K.S ad.block := hs (by intro h0; rw [h0] at hj; simp at hj)
    rw [← hcell j x hj]
    exact cell_of_block (by rw [add_block]; exact L.heap _ hb)
  | emp => exact .emp
  | fn h1 h2 _ _ ih1 ih2 => exact .fn h1 h2 (fun i x hi => ih1 i x hi L) (fun i x hi => ih2 i x hi L)
  | mp h => rw [← L.μ _ h]; exact .mp (Nat.lt_of_lt_of_le h L.n)
  | opq => exact .opq

theorem RelV.mono {K K' : Ctx} {x : AV} {v : Value} (h : RelV K x v) (L : Ctx.Le K K') : RelV K' x v := by
  induction h with
  | c h => exact .c (h.mono L)
  | agg hl r => exact .agg hl (fun i x hi => (r i x hi).mono L)
  | tup hl _ ih => exact .tup hl ih

/-- What a value's cells are. -/
theorem RelV.cells {K : Ctx} {x : AV} {v : Value} (h : RelV K x v) (ht : ∀ l, x ≠ .tup l) : x.cells.length = v.cells.size ∧ ∀ (i : Nat) (y : Cel), x.cells[i]? = some y → RelC K y (v.cells.getD i undef) := by
  cases h with
  | c h =>
    have h1 := h.one
    rename_i y
    have : v.cells = #[v] := by cases v <;> simp_all [Go.Value.cells, one]
    rw [this]
    refine ⟨rfl, fun i z hz => ?_⟩
    cases i with
    | zero => simp only [AV.cells, List.getElem?_cons_zero, Option.some.injEq] at hz; subst hz; exact h
    | succ i => simp [AV.cells] at hz
  | agg hl r => exact ⟨hl, r⟩
  | tup => exact absurd rfl (ht _)

/-- The kinds that a map's keys may be of. -/
inductive MK where
  | i (k : IntKind)
  | s
  | b
  deriving DecidableEq, Inhabited
def MK.desc : MK → TypeDesc
  | .i k => .int k
  | .s => .string
  | .b => .bool
def MK.of : TypeDesc → Option MK
  | .int k => some (.i k)
  | .string => some .s
  | .bool => some .b
  | _ => none
def MK.ok : MK → Cel → Bool
  | .i k, .val (.int k' _) => decide (k' = k)
  | .s, .str _ => true
  | .b, .val (.bool _) => true
  | _, _ => false
/-- A block of the call's own. -/
inductive Blk where
  | cells (sz : Nat) (es : List (List Cel))
  | iter (s : ByteArray) (pos : Nat)
  | bld (T : TypeId) (z : Bool) (c len : Nat)   -- a strings.Builder: nil, or its bytes lie in block c
  | buf (e : TypeId) (l : List UInt8)   -- the bytes of one
  | mapb (m : MK) (es : List (Cel × AV))   -- a map: its entries in their order
  | mit (m : MK) (la : Option (Cel × AV)) (es : List (Cel × AV))   -- a range over a map that nobody changes any more: the entry that came last, and those that have not come yet

/-- none of a row's cells is frozen; where an element has more cells than one, there is no mark behind the row either -/
def Fz (sz n c : Nat) (fr : Nat × Nat) : Prop := (∀ i, i < n → (decide (fr.1 ≤ i) && decide (i < fr.2)) = false) ∧ (sz ≠ 1 → fr = (0, 0) ∧ c ≤ maxLen)
theorem Fz.plain (sz n c : Nat) (h : c ≤ maxLen) : Fz sz n c (0, 0) := ⟨fun i _ => by simp, fun _ => ⟨rfl, h⟩⟩
/-- the births of a map's entries: one each, all behind the clock -/
def Bn (A : Array MapEntry) (c : Nat) : Prop := (∀ e, e ∈ A.toList → e.born < c) ∧ (A.toList.map (·.born)).Nodup
def leftL (A : Array MapEntry) (seen : Array Nat) : List MapEntry := A.toList.filter fun e => !seen.contains e.born
def BlkRel (K : Ctx) (b : Nat) : Blk → Prop
  | .cells sz es => ∃ (C : Array Value) (t : TypeId) (fr : Nat × Nat), K.w.heap[K.μ b]? = some (.cells C t fr) ∧ Fz sz C.size (K.κ b) fr ∧
      es.length ≤ K.κ b ∧ K.κ b * sz ≤ C.size ∧ ∀ (i : Nat) (e : List Cel), es[i]? = some e → e.length = sz ∧ ∀ (j : Nat) (x : Cel), e[j]? = some x → ∃ v, C[i * sz + j]? = some v ∧ RelC K x v
  | .iter s pos => K.w.heap[K.μ b]? = some (.stringIter s pos)
  | .bld T z c len => ∃ p v, K.w.heap[K.μ b]? = some (.cells #[p, v] T (0, 0)) ∧ (p = .pointer none ∨ p = .pointer (some ⟨K.μ b, 0, none⟩)) ∧ c < K.n ∧ (z = true → v = .slice none 0 0) ∧ (z = false → v = .slice (some ⟨K.μ c, 0, none⟩) len (K.κ c))
  | .buf e l => ∃ C : Array Value, K.w.heap[K.μ b]? = some (.cells C e (0, 0)) ∧ C.size = K.κ b ∧ l.length ≤ K.κ b ∧ K.κ b ≤ maxLen ∧ C.toList.take l.length = l.map fun x => Value.int .u8 x.toNat
  | .mapb m es => ∃ (A : Array MapEntry) (c : Nat), K.w.heap[K.μ b]? = some (.map A c) ∧ (A.size = es.length ∧ Bn A c) ∧ ∀ (i : Nat) (k : Cel) (v : AV), es[i]? = some (k, v) → m.ok k = true ∧ ∃ e, A[i]? = some e ∧ RelC K.bare k e.key ∧ RelV K.bare v e.val
  | .mit m la es => ∃ (r : Nat) (A : Array MapEntry) (c : Nat) (seen : Array Nat), K.w.heap[K.μ b]? = some (.mapIter (some r) c seen c) ∧ (K.S r ∧ K.w.heap[r]? = some (.map A c)) ∧ (Bn A c ∧ (leftL A seen).length = es.length) ∧ (∀ k v, la = some (k, v) → ∃ (e : MapEntry) (s0 : Array Nat), e ∈ A.toList ∧ seen = s0.push e.born ∧ RelC K.bare k e.key ∧ RelV K.bare v e.val) ∧
      ∀ (i : Nat) (k : Cel) (v : AV), es[i]? = some (k, v) → m.ok k = true ∧ ∃ e, (leftL A seen)[i]? = some e ∧ RelC K.bare k e.key ∧ RelV K.bare v e.val

abbrev Heap := Nat → Option Blk
/-- What the package-level variables hold that are read. -/
abbrev Glob := Nat → List Cel

def stab (E : Nat → Prop) (w : World) (μ : Nat → Nat) (h : Heap) : Nat → Prop := fun k => k < w.heap.size ∧ ¬ E k ∧ ∀ b x, h b = some x → μ b ≠ k

def ctx (E : Nat → Prop) (w : World) (μ κ : Nat → Nat) (h : Heap) (n : Nat) : Ctx := { w := w, S := stab E w μ h, μ := μ, κ := κ, n := n }

/-- a package variable's cells: all that it holds -/
def GlobOK (K : Ctx) (g : Nat) (cs : List Cel) : Prop := RelC K (.rop cs) (.pointer (some ⟨g, 0, none⟩)) ∧ (cs ≠ [] → ∃ (C : Array Value) (t : TypeId) (fr : Nat × Nat), K.w.heap[g]? = some (.cells C t fr) ∧ C.size = cs.length)
theorem GlobOK.mono {K K' : Ctx} {g : Nat} {cs : List Cel} (h : GlobOK K g cs) (L : Ctx.Le K K') : GlobOK K' g cs := by
  refine ⟨h.1.mono L, fun hne => ?_⟩
  obtain ⟨C, t, fr, h1, h2⟩ := h.2 hne
  have hs : K.S g := by
    cases h.1 with
    | rop f hs hcell hrel => exact hs hne
  exact ⟨C, t, fr, (L.heap g hs).trans h1, h2⟩

structure HeapOK (Γ : Glob) (E : Nat → Prop) (w : World) (μ κ : Nat → Nat) (h : Heap) (n : Nat) : Prop where
  lt : ∀ k, E k → k < w.heap.size
  bound : ∀ b x, h b = some x → b < n
  inj : ∀ b b' x x', h b = some x → h b' = some x' → μ b = μ b' → b = b'
  res : ∀ b x, h b = some x → ¬ E (μ b)
  blk : ∀ b x, h b = some x → BlkRel (ctx E w μ κ h n) b x
  glob : ∀ g, GlobOK (ctx E w μ κ h n) g (Γ g)

/-- What has been kept since the entry. -/
structure From (E : Nat → Prop) (K K' : Ctx) : Prop where
  le : Ctx.Le K K'
  size : K.w.heap.size ≤ K'.w.heap.size
  os : K'.w.os = K.w.os
  tape : K'.w.tape = K.w.tape
  output : K'.w.output = K.w.output
  res : ∀ k, E k → k < K.w.heap.size → K'.w.heap[k]? = K.w.heap[k]?

theorem From.refl (E : Nat → Prop) (K : Ctx) : From E K K := ⟨.refl K, Nat.le_refl _, rfl, rfl, rfl, fun _ _ _ => rfl⟩
theorem From.trans {E : Nat → Prop} {A B C : Ctx} (h : From E A B) (k : From E B C) : From E A C :=
  ⟨h.le.trans k.le, Nat.le_trans h.size k.size, k.os.trans h.os, k.tape.trans h.tape, k.output.trans h.output,
    fun i hi hl => (k.res i hi (Nat.lt_of_lt_of_le hl h.size)).trans (h.res i hi hl)⟩

theorem BlkRel.lt {K : Ctx} {b : Nat} {x : Blk} (h : BlkRel K b x) : K.μ b < K.w.heap.size := by
  cases x with
  | cells sz es =>
    obtain ⟨C, t, fr, h, _⟩ := h
    exact (Array.getElem?_eq_some_iff.1 h).1
  | iter s p => exact (Array.getElem?_eq_some_iff.1 h).1
  | bld T z c len =>
    obtain ⟨p, v, h, _⟩ := h
    exact (Array.getElem?_eq_some_iff.1 h).1
  | buf e l =>
    obtain ⟨C, h, _⟩ := h
    exact (Array.getElem?_eq_some_iff.1 h).1
  | mapb m es =>
    obtain ⟨A, c, h, _⟩ := h
    exact (Array.getElem?_eq_some_iff.1 h).1
  | mit m la es =>
    obtain ⟨r, A, c, seen, h, _⟩ := h
    exact (Array.getElem?_eq_some_iff.1 h).1

theorem BlkRel.mono {K K' : Ctx} {b : Nat} {x : Blk} (h : BlkRel K b x) (L : Ctx.Le K K') (hb : b < K.n) (hh : K'.w.heap[K.μ b]? = K.w.heap[K.μ b]?) : BlkRel K' b x := by
  cases x with
  | cells sz es =>
    obtain ⟨C, t, fr, h0, h1, h2, h3, h4⟩ := h
    refine ⟨C, t, fr, by rw [L.μ b hb, hh]; exact h0, by rw [L.κ b hb]; exact h1, by rw [L.κ b hb]; exact h2, by rw [L.κ b hb]; exact h3, fun i e hi => ⟨(h4 i e hi).1, fun j x hj => ?_⟩⟩
    obtain ⟨v, hv, hr⟩ := (h4 i e hi).2 j x hj
    exact ⟨v, hv, hr.mono L⟩
  | iter s p => show K'.w.heap[K'.μ b]? = _; rw [L.μ b hb, hh]; exact h
  | bld T z c len =>
    obtain ⟨p, v, h0, h1, hc, h2, h3⟩ := h
    exact ⟨p, v, by rw [L.μ b hb, hh]; exact h0, by rw [L.μ b hb]; exact h1, Nat.lt_of_lt_of_le hc L.n, h2, fun hz => by rw [L.μ c hc, L.κ c hc]; exact h3 hz⟩
  | buf e l =>
    obtain ⟨C, h0, h1, h2, h3, h4⟩ := h
    exact ⟨C, by rw [L.μ b hb, hh]; exact h0, by rw [L.κ b hb]; exact h1, by rw [L.κ b hb]; exact h2, by rw [L.κ b hb]; exact h3, h4⟩
  | mapb m es =>
    obtain ⟨A, c, h0, h1, h2⟩ := h
    refine ⟨A, c, by rw [L.μ b hb, hh]; exact h0, h1, fun i k v hi => ?_⟩
    obtain ⟨g0, e, g1, g2, g3⟩ := h2 i k v hi
    exact ⟨g0, e, g1, g2.mono L.bare, g3.mono L.bare⟩
  | mit m la es =>
    obtain ⟨r, A, c, seen, h0, h1, h2, hl, h3⟩ := h
    refine ⟨r, A, c, seen, by rw [L.μ b hb, hh]; exact h0, ⟨L.S r h1.1, (L.heap r h1.1).trans h1.2⟩, h2, fun k v hk => ?_, fun i k v hi => ?_⟩
    · obtain ⟨e, s0, g0, g1, g2, g3⟩ := hl k v hk
      exact ⟨e, s0, g0, g1, g2.mono L.bare, g3.mono L.bare⟩
    obtain ⟨g0, e, g1, g2, g3⟩ := h3 i k v hi
    exact ⟨g0, e, g1, g2.mono L.bare, g3.mono L.bare⟩

/-! ### a draw -/
theorem HeapOK.drew {Γ : Glob} {E : Nat → Prop} {w : World} {μ κ : Nat → Nat} {h : Heap} {n : Nat} (H : HeapOK Γ E w μ κ h n) (k : Nat) :
    HeapOK Γ E { w with drawn := k } μ κ h n ∧ From E (ctx E w μ κ h n) (ctx E { w with drawn := k } μ κ h n) := by
  have L : Ctx.Le (ctx E w μ κ h n) (ctx E { w with drawn := k } μ κ h n) := ⟨Nat.le_refl _, fun _ _ => rfl, fun _ _ => rfl, fun _ h => h, fun _ _ => rfl⟩
  exact ⟨⟨H.lt, H.bound, H.inj, H.res, fun b x hb => (H.blk b x hb).mono L (H.bound b x hb) rfl, fun g => (H.glob g).mono L⟩, ⟨L, Nat.le_refl _, rfl, rfl, rfl, fun _ _ _ => rfl⟩⟩

/-! ### a new block -/
def upd {α : Type} (f : Nat → α) (i : Nat) (a : α) : Nat → α := fun j => cond (Nat.beq j i) a (f j)
theorem upd_same {α : Type} (f : Nat → α) (i : Nat) (a : α) : upd f i a i = a := by simp [upd]
theorem upd_ne {α : Type} (f : Nat → α) {i j : Nat} (a : α) (h : j ≠ i) : upd f i a j = f j := by
  have e : Nat.beq j i = false := by
    cases e : Nat.beq j i with
    | false => rfl
    | true => exact absurd (Nat.eq_of_beq_eq_true e) h
  show cond (Nat.beq j i) a (f j) = f j
  rw [e]
  rfl
theorem upd_apply {α : Type} (f : Nat → α) (i j : Nat) (a : α) : upd f i a j = if j = i then a else f j := by
  by_cases h : j = i
  · subst h; rw [upd_same, if_pos rfl]
  · rw [upd_ne _ _ h, if_neg h]

theorem alloc_heap (w : World) (o : Obj) (k : Nat) : (w.alloc o).heap[k]? = if k = w.heap.size then some o else w.heap[k]? := by
  show (w.heap.push o)[k]? = _
  rw [Array.getElem?_push]

theorem alloc_le {Γ : Glob} {E : Nat → Prop} {w : World} {μ κ : Nat → Nat} {h : Heap} {n : Nat} (H : HeapOK Γ E w μ κ h n) (o : Obj) (x : Blk) (c : Nat) :
    From E (ctx E w μ κ h n) (ctx E (w.alloc o) (upd μ n w.heap.size) (upd κ n c) (upd h n (some x)) (n + 1)) := by
  have hh : ∀ k, k < w.heap.size → (w.alloc o).heap[k]? = w.heap[k]? := fun k hk => by rw [alloc_heap, if_neg (by omega)]
  refine ⟨⟨Nat.le_succ _, fun b hb => upd_ne _ _ (Nat.ne_of_lt hb), fun b hb => upd_ne _ _ (Nat.ne_of_lt hb), fun k hk => ⟨?_, hk.2.1, ?_⟩, fun k hk => hh k hk.1⟩, ?_, rfl, rfl, rfl, fun k hk hl => hh k hl⟩
  · show k < (w.alloc o).heap.size
    simp; have := hk.1; omega
  · intro b y hb
    show upd μ n w.heap.size b ≠ k
    by_cases e : b = n
    · subst e; rw [upd_same]; have := hk.1; omega
    · rw [upd_ne _ _ e] at hb ⊢
      exact hk.2.2 b y hb
  · show w.heap.size ≤ (w.alloc o).heap.size
    simp

theorem HeapOK.alloc {Γ : Glob} {E : Nat → Prop} {w : World} {μ κ : Nat → Nat} {h : Heap} {n : Nat} (H : HeapOK Γ E w μ κ h n) (o : Obj) (x : Blk) (c : Nat)
    (hx : BlkRel (ctx E (w.alloc o) (upd μ n w.heap.size) (upd κ n c) (upd h n (some x)) (n + 1)) n x) :
    HeapOK Γ E (w.alloc o) (upd μ n w.heap.size) (upd κ n c) (upd h n (some x)) (n + 1) := by
  have F := alloc_le H o x c
  refine ⟨fun k hk => by have := H.lt k hk; simp; omega, ?_, ?_, ?_, ?_, fun g => (H.glob g).mono F.le⟩
  · intro b y hb
    by_cases e : b = n
    · omega
    · rw [upd_ne _ _ e] at hb; have := H.bound b y hb; omega
  · intro b b' y y' hb hb' hm
    by_cases e : b = n <;> by_cases e' : b' = n
    · omega
    · subst e
      rw [upd_same, upd_ne _ _ e'] at hm
      rw [upd_ne _ _ e'] at hb'
      have := (H.blk b' y' hb').lt
      exact absurd hm (Nat.ne_of_gt this)
    · subst e'
      rw [upd_same, upd_ne _ _ e] at hm
      rw [upd_ne _ _ e] at hb
      have := (H.blk b y hb).lt
      exact absurd hm (Nat.ne_of_lt this)
    · rw [upd_ne _ _ e] at hb hm; rw [upd_ne _ _ e'] at hb' hm
      exact H.inj b b' y y' hb hb' hm
  · intro b y hb
    by_cases e : b = n
    · subst e; rw [upd_same]; intro h0; have := H.lt _ h0; omega
    · rw [upd_ne _ _ e] at hb ⊢; exact H.res b y hb
  · intro b y hb
    by_cases e : b = n
    · subst e; rw [upd_same] at hb; cases hb; exact hx
    · rw [upd_ne _ _ e] at hb
      refine (H.blk b y hb).mono F.le (H.bound b y hb) ?_
      show (w.alloc o).heap[μ b]? = w.heap[μ b]?
      rw [alloc_heap]; exact if_neg (Nat.ne_of_lt (H.blk b y hb).lt)

/-! ### a live block's content changes -/
theorem HeapOK.write {Γ : Glob} {E : Nat → Prop} {w w' : World} {μ κ : Nat → Nat} {h : Heap} {n : Nat} (H : HeapOK Γ E w μ κ h n) {b : Nat} {x x' : Blk} (hb : h b = some x)
    (hs : w'.heap.size = w.heap.size) (ho : w'.os = w.os) (ht : w'.tape = w.tape) (hu : w'.output = w.output) (hh : ∀ k, k ≠ μ b → w'.heap[k]? = w.heap[k]?)
    (hx : BlkRel (ctx E w' μ κ (upd h b (some x')) n) b x') :
    HeapOK Γ E w' μ κ (upd h b (some x')) n ∧ From E (ctx E w μ κ h n) (ctx E w' μ κ (upd h b (some x')) n) := by
  have F : From E (ctx E w μ κ h n) (ctx E w' μ κ (upd h b (some x')) n) := by
    refine ⟨⟨Nat.le_refl _, fun _ _ => rfl, fun _ _ => rfl, fun k hk => ⟨by show k < w'.heap.size; rw [hs]; exact hk.1, hk.2.1, ?_⟩, fun k hk => hh k (Ne.symm (hk.2.2 b x hb))⟩, by show w.heap.size ≤ w'.heap.size; omega, ho, ht, hu, fun k hk _ => hh k ?_⟩
    · intro b' y hb'
      by_cases e : b' = b
      · subst e; exact hk.2.2 b' x hb
      · rw [upd_ne _ _ e] at hb'; exact hk.2.2 b' y hb'
    · intro e; subst e; exact H.res b x hb hk
  refine ⟨⟨fun k hk => by rw [hs]; exact H.lt k hk, ?_, ?_, ?_, ?_, fun g => (H.glob g).mono F.le⟩, F⟩
  · intro b' y hb'
    by_cases e : b' = b
    · subst e; exact H.bound b' x hb
    · rw [upd_ne _ _ e] at hb'; exact H.bound b' y hb'
  · intro b1 b2 y1 y2 h1 h2 hm
    have g : ∀ b' y, upd h b (some x') b' = some y → ∃ z, h b' = some z := by
      intro b' y hb'
      by_cases e : b' = b
      · subst e; exact ⟨x, hb⟩
      · rw [upd_ne _ _ e] at hb'; exact ⟨y, hb'⟩
    obtain ⟨z1, g1⟩ := g b1 y1 h1
    obtain ⟨z2, g2⟩ := g b2 y2 h2
    exact H.inj b1 b2 z1 z2 g1 g2 hm
  · intro b' y hb'
    by_cases e : b' = b
    · subst e; exact H.res b' x hb
    · rw [upd_ne _ _ e] at hb'; exact H.res b' y hb'
  · intro b' y hb'
    by_cases e : b' = b
    · subst e; rw [upd_same] at hb'; cases hb'; exact hx
    · rw [upd_ne _ _ e] at hb'
      exact (H.blk b' y hb').mono F.le (H.bound b' y hb') (hh _ fun hm => e (H.inj b' b y x hb' hb hm))

/-- Less is told of the heap. -/
theorem HeapOK.less {Γ : Glob} {E : Nat → Prop} {w : World} {μ κ : Nat → Nat} {h h' : Heap} {n : Nat} (H : HeapOK Γ E w μ κ h n) (hl : ∀ b x, h' b = some x → h b = some x) :
    HeapOK Γ E w μ κ h' n ∧ From E (ctx E w μ κ h n) (ctx E w μ κ h' n) := by
  have F : From E (ctx E w μ κ h n) (ctx E w μ κ h' n) :=
    ⟨⟨Nat.le_refl _, fun _ _ => rfl, fun _ _ => rfl, fun k hk => ⟨hk.1, hk.2.1, fun b x hb => hk.2.2 b x (hl b x hb)⟩, fun _ _ => rfl⟩, Nat.le_refl _, rfl, rfl, rfl, fun _ _ _ => rfl⟩
  exact ⟨⟨H.lt, fun b x hb => H.bound b x (hl b x hb), fun b b' x x' hb hb' => H.inj b b' x x' (hl b x hb) (hl b' x' hb'), fun b x hb => H.res b x (hl b x hb),
    fun b x hb => (H.blk b x (hl b x hb)).mono F.le (H.bound b x (hl b x hb)) rfl, fun g => (H.glob g).mono F.le⟩, F⟩
theorem left_all (A : Array MapEntry) : leftL A #[] = A.toList := by
  unfold leftL
  rw [List.filter_eq_self]
  intro e _
  simp
theorem bn_push {A : Array MapEntry} {c : Nat} {k v : Value} (h : Bn A c) : Bn (A.push { key := k, val := v, born := c }) (c + 1) := by
  obtain ⟨h1, h2⟩ := h
  refine ⟨fun e he => ?_, ?_⟩
  · rw [Array.toList_push, List.mem_append, List.mem_singleton] at he
    rcases he with he | rfl
    · have := h1 e he; omega
    · exact Nat.lt_succ_self c
  · rw [Array.toList_push, List.map_append, List.nodup_append]
    refine ⟨h2, by simp, fun a ha b hb => ?_⟩
    obtain ⟨e, he, rfl⟩ := List.mem_map.1 ha
    have := h1 e he
    simp at hb
    omega
theorem bn_modify {A : Array MapEntry} {c j : Nat} {k v : Value} (h : Bn A c) : Bn (A.modify j fun e => { e with key := k, val := v }) c := by
  have e : (A.modify j fun e => { e with key := k, val := v }).toList.map (·.born) = A.toList.map (·.born) := by
    apply List.ext_getElem?
    intro i
    rw [List.getElem?_map, List.getElem?_map, Array.getElem?_toList, Array.getElem?_toList, Array.getElem?_modify]
    split
    · cases A[i]? <;> rfl
    · rfl
  refine ⟨fun x hx => ?_, by rw [e]; exact h.2⟩
  have : x.born ∈ A.toList.map (·.born) := by rw [← e]; exact List.mem_map_of_mem hx
  obtain ⟨y, hy, hq⟩ := List.mem_map.1 this
  rw [← hq]
  exact h.1 y hy

end Go.Proofs.YtolmbcngghkfiaaDoorBv
