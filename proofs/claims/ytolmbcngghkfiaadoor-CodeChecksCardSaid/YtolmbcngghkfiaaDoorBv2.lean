/- The calculus' own small code: operations whose types are resolved, made from the model's code by 'compOp', 'compCode', 'compFunc' (held by the kernel for each function), and what an operation does to values told by their content. It proves nothing of any program. -/
import Derived.Test.YtolmbcngghkfiaaDoorBv1
import Derived.Orders
namespace Go.Proofs.YtolmbcngghkfiaaDoorBv
open Go

def AV.ofCells (g : Option Bool) (l : List Cel) : AV := if g = some true then .agg l else match l with
  | [x] => .c x
  | _ => .agg l

structure St where
  env : Nat → Option AV
  h : Heap
  n : Nat

inductive Arg where
  | tmp (t : Nat)
  | const (x : AV)
  | glob (g : Nat)
  deriving Inhabited

def Arg.get (Γ : Glob) (env : Nat → Option AV) : Arg → Option AV
  | .tmp t => env t
  | .const x => some x
  | .glob g => some (.c (.rop (Γ g)))

inductive EK where
  | b | i | s
  deriving Inhabited

inductive AOp where
  | mov (x : Arg)
  | pick (c a b : Arg)
  | box (x : Arg)
  | build (zero : List Cel) (parts : List (Nat × Nat × Arg))
  | bslice (sz : Nat) (zero : List Cel) (len : Nat) (parts : List (Nat × Arg))
  | load (agg : Bool) (m : Nat) (a : Arg)
  | store (m : Nat) (a x : Arg)
  | nilc (x : Arg)
  | bin (op : BinOp) (x y : Arg)
  | eqs (neg agg : Bool) (l : List EK) (x y : Arg)
  | eqn (neg : Bool) (x : Arg)
  | eqi (neg : Bool) (x : Arg)
  | un (op : UnOp) (x : Arg)
  | conv (k : IntKind) (x : Arg)
  | cvS (x : Arg)
  | toBytes (x : Arg)
  | ofBytes (x : Arg)
  | mkfn (f : Fn) (first captured : List Arg)
  | mkif
  | mksl (sz bytes : Nat) (zero : List Cel) (len cap : Arg)
  | slStr (x : Arg) (lo hi : Option Arg)
  | slSl (sz : Nat) (x : Arg) (lo hi max : Option Arg)
  | slArr (len sz : Nat) (x : Arg) (lo hi : Option Arg)
  | faddr (off : Nat) (x : Arg)
  | fld (agg : Bool) (off m : Nat) (x : Arg)
  | iaddr (sz : Nat) (x i : Arg)
  | iaddrA (len sz : Nat) (x i : Arg)
  | idxS (x i : Arg)
  | idxA (agg : Bool) (len sz : Nat) (x i : Arg)
  | ext (x : Arg) (i : Nat)
  | rangeS (x : Arg)
  | nextS (x : Arg)
  | lenS (x : Arg)
  | len (x : Arg)
  | lenA (n : Nat)
  | mm (isMax : Bool) (xs : List Arg)
  | app (sz bytes : Nat) (x y : Arg)
  | appS (x y : Arg)
  | cpy (sz : Nat) (x y : Arg)
  | clr (sz : Nat) (zero : List Cel) (x : Arg)
  | call (f : Nat) (xs : List Arg)
  | callv (g : Arg) (xs : List Arg)
  | boxB (T : TypeId)   -- a new strings.Builder
  | mkmap (m : MK)
  | mlook (m : MK) (z : AV) (ok : Bool) (x k : Arg)
  | mput (m : MK) (x k v : Arg)
  | rangeM (x : Arg)   -- from here on nobody changes the map
  | nextM (x : Arg)
  | entryM (x : Arg)
  | bad   -- what is not told: nothing is known behind it
  deriving Inhabited

structure AOper where
  dst : Option Nat
  op : AOp
  guard : Option (Nat × Bool)
  deriving Inhabited

/-- A region that draws its order: a row of operations, and then one of two, whichever comes up. -/
inductive DT where
  | fin (l : List (AOper × Nat × Nat))
  | alt (l : List (AOper × Nat × Nat)) (a b : DT)
  deriving Inhabited
def DT.cons (x : AOper × Nat × Nat) : DT → DT
  | .fin l => .fin (x :: l)
  | .alt l a b => .alt (x :: l) a b

inductive ACode where
  | skip
  | region (ops : List AOper)
  | drawn (t : DT)   -- an operation; 0: it may be taken first; 1: it must keep all blocks that were there; 2: it need not; its number in the region
  | seq (a b : ACode)
  | cond (c : Arg) (t e : ACode)
  | block (id : Nat) (b : ACode)
  | loop (b : ACode)
  | exit (id : Nat)
  | ret
  deriving Inhabited

inductive ARes where
  | tmp (t : Nat)
  | cell (agg : Bool) (m : Nat) (t : Nat)
  deriving Inhabited

structure AFunc where
  nparams : Nat
  results : List ARes
  body : ACode
  deriving Inhabited

/-! ### from the model's code -/
section
variable (P : Program)

def zeroCel (v : Value) (sz : Nat) : Option Cel :=
  if plain v then some (.val v) else match v with
  | .string s => some (.str s.data.toList)
  | .slice none 0 0 => some (.ro true sz [])
  | _ => none

def aggT (t : TypeId) : Option Bool := match P.underlying t with
  | some (.struct _) => some true
  | some (.array _ _) => some true
  | some _ => some false
  | none => none

def elemT (t : TypeId) : Option TypeId := match P.underlying t with
  | some (.slice e) => some e
  | _ => none

def sizeT (t : TypeId) : Option Nat := (P.info? t).map (·.size)

def slSz (t : TypeId) : Nat := match P.underlying t with
  | some (.slice e) => P.cellsOf e
  | _ => 0

/-- the types of a value's cells, one behind the other -/
def flatT : Nat → TypeId → List TypeId
  | 0, t => [t]
  | d + 1, t => match P.underlying t with
    | some (.struct fs) => fs.toList.flatMap fun f => flatT d f.type
    | some (.array n e) => (List.replicate n (flatT d e)).flatten
    | _ => [t]

def zeroCels (t : TypeId) : Option (List Cel) := do
  let i ← P.info? t
  let z ← i.zero
  let ts := flatT P 12 t
  (z.cells.toList.zipIdx).mapM fun (v, j) => zeroCel v (slSz P (ts.getD j t))

def celsOf (t : TypeId) (cs : List Value) : Option (List Cel) :=
  let ts := flatT P 12 t
  cs.zipIdx.mapM fun (v, j) => zeroCel v (slSz P (ts.getD j t))

def compArg (t : TypeId) : Operand → Option Arg
  | .tmp i => some (.tmp i)
  | .global g => some (.glob g)
  | .func f => some (.const (.c (.fn (.func f) [] [])))
  | .const (.agg cs) => (celsOf P t cs.toList).map fun l => .const (.agg l)
  | .const v => (zeroCel v (slSz P t)).map fun c => .const (.c c)

def compArgs (ts : List TypeId) (xs : List Operand) : Option (List Arg) := (xs.zip (ts ++ List.replicate xs.length 0)).mapM fun (x, t) => compArg P t x

/-- values of this type may be held against each other cell by cell: the cells' kinds; none: they may not -/
def eqKinds : Nat → TypeId → Option (List EK)
  | 0, _ => none
  | d + 1, t => match P.underlying t with
    | some .bool => if sizeT P t = some 1 then some [.b] else none
    | some (.int _) => if sizeT P t = some 1 then some [.i] else none
    | some .string => if sizeT P t = some 1 then some [.s] else none
    | some (.struct fs) =>
      if P.stoodInHeld t then none else
      match fs.toList.foldl (fun acc f => acc.bind fun l => if f.name ≠ "_" ∧ f.offset = l.length then (eqKinds d f.type).map (l ++ ·) else none) (some []) with
      | some l => if sizeT P t = some l.length ∧ l.length ≠ 0 then some l else none
      | none => none
    | some (.array n e) => match eqKinds d e with
      | some l => if sizeT P t = some (n * l.length) ∧ n ≠ 0 then some (List.replicate n l).flatten else none
      | none => none
    | _ => none

def compEq (neg : Bool) (op : BinOp) (t : TypeId) (x y : Operand) (a b : Arg) : Option AOp :=
  match P.underlying t with
  | some (.int _) => some (.bin op a b)
  | some .string => some (.bin op a b)
  | some .bool => (eqKinds P 12 t).map fun l => .eqs neg false l a b
  | some (.struct _) => if P.eqGuardType P.depth t then none else (eqKinds P 12 t).map fun l => .eqs neg true l a b
  | some (.array _ _) => if P.eqGuardType P.depth t then none else (eqKinds P 12 t).map fun l => .eqs neg true l a b
  | some (.slice _) => match x, y with
    | _, .const (.slice none 0 0) => some (.eqn neg a)
    | .const (.slice none 0 0), _ => some (.eqn neg b)
    | _, _ => none
  | some (.interface _) => match x, y with
    | _, .const .nilIface => some (.eqi neg a)
    | _, _ => none
  | _ => none

def compBin (op : BinOp) (t : TypeId) (x y : Operand) (yt : TypeId) : Option AOp := do
  let a ← compArg P t x
  let b ← compArg P yt y
  match op with
  | .eql => compEq P false op t x y a b
  | .neq => compEq P true op t x y a b
  | _ => match P.underlying t with
    | some (.int _) => some (.bin op a b)
    | some .string => some (.bin op a b)
    | _ => none

/-- a function that has a body -/
def okFn (f : Nat) : Bool := match P.funcs[f]? with
  | some fn => fn.body.isSome && !(fn.name == "runtime.NumGoroutine")
  | none => false

def compOpt (t : TypeId) : Option Operand → Option (Option Arg)
  | none => some none
  | some x => (compArg P t x).map some

/-- strings.Builder, by its fields and its zero value -/
def isBld (t : TypeId) : Bool := (match P.underlying t with
  | some (.struct fs) => fs.toList.map (·.name) == ["addr", "buf"]
  | _ => false) && (match P.info? t with
  | some i => match i.zero with
    | some (.agg cs) => match cs.toList with
      | [.pointer none, .slice none 0 0] => true
      | _ => false
    | _ => false
  | none => false)
theorem isBld_zero {t : TypeId} (h : isBld P t = true) : ∃ i, P.info? t = some i ∧ i.zero = some (.agg #[.pointer none, .slice none 0 0]) := by
  unfold isBld at h
  rw [Bool.and_eq_true] at h
  have h := h.2
  split at h
  · rename_i i hi
    split at h
    · rename_i cs hz
      split at h
      · rename_i hl
        refine ⟨i, hi, ?_⟩
        rw [hz]
        congr 2
        exact Array.toList_inj.1 hl
      · cases h
    · cases h
  · cases h

/-- a type's zero value -/
def zeroAV (t : TypeId) : Option AV := do
  let i ← P.info? t
  match i.zero with
  | some (.agg cs) => (celsOf P t cs.toList).map .agg
  | some z => (zeroCel z (slSz P t)).map .c
  | none => none

/-- a value of which it is not told whether its lists are nil -/
def Cel.lax : Cel → Cel
  | .ro _ sz xs => .ro false sz xs
  | x => x
def AV.lax : AV → AV
  | .c x => .c x.lax
  | .agg xs => .agg (xs.map Cel.lax)
  | v => v

/-- the kind of a map's keys -/
def keyT (t : TypeId) : Option (MK × TypeId × TypeId) := match P.underlying t with
  | some (.map k e) => match P.underlying k with
    | some d => (MK.of d).map fun m => (m, k, e)
    | none => none
  | _ => none

def compOp (o : Oper) : Option AOp :=
  match o.op with
  | .makeMap t none => (keyT P t).map fun q => .mkmap q.1
  | .lookup t x k ok => do
    let q ← keyT P t
    some (.mlook q.1 (← zeroAV P q.2.2).lax ok (← compArg P t x) (← compArg P q.2.1 k))
  | .mapUpdate t x k v => do
    let q ← keyT P t
    some (.mput q.1 (← compArg P t x) (← compArg P q.2.1 k) (← compArg P q.2.2 v))
  | .insert t x k v => do
    let q ← keyT P t
    some (.mput q.1 (← compArg P t x) (← compArg P q.2.1 k) (← compArg P q.2.2 v))
  | .move x | .assign x => (compArg P o.type x).map .mov
  | .pick c a b => do some (.pick (← compArg P 0 c) (← compArg P o.type a) (← compArg P o.type b))
  | .alloc e => if isBld P e then some (.boxB e) else do some (.box (.const (← (zeroCels P e).map (AV.ofCells (aggT P e)))))
  | .box e x => (compArg P e x).map .box
  | .build t parts => do
    let z ← zeroCels P t
    match P.underlying t with
    | some (.struct fs) => do
      let ps ← parts.toList.mapM fun (i, x) => do
        let f ← fs[i]?
        let n ← sizeT P f.type
        some (f.offset, n, ← compArg P f.type x)
      if fs.toList.all (fun f => (sizeT P f.type).isSome) then some (.build z ps) else none
    | some (.array _ e) => do
      let n ← sizeT P e
      let ps ← parts.toList.mapM fun (i, x) => do some (i * n, n, ← compArg P e x)
      some (.build z ps)
    | _ => none
  | .buildSlice t len parts => do
    let e ← elemT P t
    let n ← sizeT P e
    let z ← zeroCels P e
    let ps ← parts.toList.mapM fun (i, x) => do some (i, ← compArg P e x)
    if z.length = n ∧ n ≠ 0 ∧ len * n ≤ 2 ^ 24 ∧ ps.all (fun p => p.1 < len) then some (.bslice n z len ps) else none
  | .load t a => do some (.load (← aggT P t) (← sizeT P t) (← compArg P 0 a))
  | .store t a x => do some (.store (← sizeT P t) (← compArg P 0 a) (← compArg P t x))
  | .nilCheck x => (compArg P 0 x).map .nilc
  | .binOp op t x y yt => compBin P op t x y yt
  | .unOp op t x => (compArg P t x).map (.un op)
  | .convert s d x => do
    let a ← compArg P s x
    match P.underlying s, P.underlying d with
    | some (.int _), some (.int k) => some (.conv k a)
    | some .string, some .string => some (.cvS a)
    | some .string, some (.slice e) => match P.underlying e with
      | some (.int .u8) => some (.toBytes a)
      | _ => none
    | some (.slice e), some .string => match P.underlying e with
      | some (.int .u8) => some (.ofBytes a)
      | _ => none
    | _, _ => none
  | .makeInterface t x => match P.underlying t with
    | some (.interface _) => none
    | some _ => match x with
      | .const v => if plain v then some (.mov (.const (.c (.val (.iface t v))))) else some .mkif
      | _ => some .mkif
    | none => none
  | .makeFunc f first captured => do some (.mkfn f (← compArgs P [] first.toList) (← compArgs P [] captured.toList))
  | .makeSlice t l c => do
    let e ← elemT P t
    let i ← P.info? e
    let z ← zeroCels P e
    if z.length = i.size ∧ i.size ≠ 0 then some (.mksl i.size i.bytes z (← compArg P 0 l) (← compArg P 0 c)) else none
  | .slice t x lo hi mx => do
    let a ← compArg P t x
    let l ← compOpt P 0 lo
    let h ← compOpt P 0 hi
    let m ← compOpt P 0 mx
    match P.underlying t with
    | some .string => if mx.isNone then some (.slStr a l h) else none
    | some (.slice e) => do some (.slSl (← sizeT P e) a l h m)
    | some (.array n e) => if mx.isNone then do some (.slArr n (← sizeT P e) a l h) else none
    | _ => none
  | .fieldAddr t x f => match P.underlying t with
    | some (.struct fs) => do
      let fd ← fs[f]?
      let n ← sizeT P fd.type
      if n = 0 then none else some (.faddr fd.offset (← compArg P 0 x))
    | _ => none
  | .field t x f => match P.underlying t with
    | some (.struct fs) => do
      let fd ← fs[f]?
      some (.fld (← aggT P fd.type) fd.offset (← sizeT P fd.type) (← compArg P t x))
    | _ => none
  | .indexAddr t x i => do
    let b ← compArg P 0 i
    match P.underlying t with
    | some (.slice e) => do some (.iaddr (← sizeT P e) (← compArg P t x) b)
    | some (.array n e) => if n ≤ 1 then none else do some (.iaddrA n (← sizeT P e) (← compArg P 0 x) b)
    | _ => none
  | .index t x i => do
    let a ← compArg P t x
    let b ← compArg P 0 i
    match P.underlying t with
    | some .string => some (.idxS a b)
    | some (.array n e) => do some (.idxA (← aggT P e) n (← sizeT P e) a b)
    | _ => none
  | .range t x => match P.underlying t with
    | some .string => (compArg P t x).map .rangeS
    | some (.map _ _) => (compArg P t x).map .rangeM
    | _ => none
  | .next it true => (compArg P 0 it).map .nextS
  | .next it false => (compArg P 0 it).map .nextM
  | .entry it => (compArg P 0 it).map .entryM
  | .extract t i => (compArg P 0 t).map fun a => .ext a i
  | .call { callee := .builtin .len, args, argTypes } => match args.toList, argTypes.toList with
    | [x], t :: _ => match P.underlying t with
      | some .string => (compArg P t x).map .lenS
      | some (.slice _) => (compArg P t x).map .len
      | some (.array n _) => some (.lenA n)
      | _ => none
    | _, _ => none
  | .call { callee := .builtin .min, args, argTypes } => (compArgs P argTypes.toList args.toList).map (.mm false)
  | .call { callee := .builtin .max, args, argTypes } => (compArgs P argTypes.toList args.toList).map (.mm true)
  | .call { callee := .builtin .append, args, argTypes } => match args.toList, argTypes.toList with
    | [x, y], [t, u] => do
      let e ← elemT P t
      let i ← P.info? e
      let a ← compArg P t x
      let b ← compArg P u y
      if i.size = 0 ∨ i.bytes = 0 ∨ i.zero.map (·.cells.size) ≠ some i.size then none else
      match P.underlying u with
      | some (.slice _) => some (.app i.size i.bytes a b)
      | some .string => if i.size = 1 ∧ i.bytes = 1 then some (.appS a b) else none
      | _ => none
    | _, _ => none
  | .call { callee := .builtin .copy, args, argTypes } => match args.toList, argTypes.toList with
    | [x, y], [t, u] => do
      let e ← elemT P t
      let _ ← elemT P u
      some (.cpy (← sizeT P e) (← compArg P t x) (← compArg P u y))
    | _, _ => none
  | .call { callee := .builtin .clear, args, argTypes } => match args.toList, argTypes.toList with
    | [x], [t] => do
      let e ← elemT P t
      let i ← P.info? e
      let z ← zeroCels P e
      let a ← compArg P t x
      if z.length = i.size ∧ i.size ≠ 0 then some (.clr i.size z a) else none
    | _, _ => none
  | .call { callee := .value (.func f), args, argTypes } => do
    if okFn P f then some (.call f (← compArgs P argTypes.toList args.toList)) else none
  | .call { callee := .value g, args, argTypes } => do some (.callv (← compArg P 0 g) (← compArgs P argTypes.toList args.toList))
  | _ => none

def AOp.isCall : AOp → Bool
  | .call .. | .callv .. => true
  | _ => false

def callFits (a : AOp) (o : Oper) : Bool := !a.isCall || match o.op with
  | .call { callee := .value _, .. } => true
  | _ => false

def compOper (ops : Array Oper) (o : Oper) : Option AOper := do
  let a := ((compOp P o).filter (callFits · o)).getD .bad
  match o.guard with
  | none => some ⟨o.dst, a, none⟩
  | some (j, want) => do
    let g ← ops[j]?
    let d ← g.dst
    some ⟨o.dst, a, some (d, want)⟩

/-- may it be taken first: it only looks -/
def AOp.quiet : AOp → Bool
  | .mov _ | .pick .. | .build .. | .load .. | .nilc _ | .bin .. | .eqs .. | .eqn .. | .eqi .. | .un .. | .conv .. | .cvS _ | .mkfn .. | .mkif | .slStr .. | .slSl .. | .faddr .. | .fld .. | .iaddr .. | .iaddrA ..
  | .idxS .. | .idxA .. | .ext .. | .lenS _ | .len _ | .lenA _ | .mm .. | .mlook .. => true
  | _ => false

/-- it only looks, and at memory -/
def AOp.reads : AOp → Bool
  | .load .. | .ofBytes _ | .mlook .. => true
  | _ => false

/-- what an operation waits for -/
def predsOf (ops : Array Oper) (i : Nat) : List Nat := match ops[i]? with
  | some o => (o.after.toList.filter (Region.binds .any)).map (·.on)
  | none => []

/-- what has come up when it may come up -/
def mustOf (ops : Array Oper) (i : Nat) : Nat → List Nat
  | 0 => predsOf ops i
  | k + 1 => (List.range ops.size).filter fun x => (mustOf ops i k).contains x || (mustOf ops i k).any fun y => (predsOf ops y).contains x

/-- it changes what was there -/
def AOp.stores : AOp → Bool
  | .store .. | .app .. | .appS .. | .cpy .. | .clr .. | .nextS _ | .mput .. | .slArr .. | .rangeM _ | .nextM _ | .bad => true
  | _ => false

/-- a call that gets a pointer: it may change what is there -/
def ptrT (t : TypeId) : Bool := match P.info? t with
  | some i => (match i.zero with
    | some (.pointer none) => true
    | _ => false)
  | none => false
def ptrCall (ops : Array Oper) (j : Nat) : Bool := match ops[j]? with
  | some o => (match o.op with
    | .call c => c.argTypes.toList.any (ptrT P)
    | _ => false)
  | none => false

/-- it makes a box -/
def isAlloc (o : Oper) : Bool := (match o.op with
  | .alloc _ => true
  | _ => false) && o.guard.isNone
/-- it stores into a box that the region itself makes -/
def boxStore (fm : Bool) (ops : Array Oper) (j : Nat) : Option Nat := if fm then match ops[j]? with
  | some o => match o.op with
    | .store _ (.tmp t) _ => if o.guard.isNone && ops.toList.any (fun k => isAlloc k && k.dst == some t) then some t else none
    | _ => none
  | none => none
  else none

/-- it may be taken first: nothing that changes memory can come before it, or it looks at none -/
def ft (fm : Bool) (ops : Array Oper) (as : Array AOper) (i : Nat) : Bool :=
  ((as[i]?).map fun o => o.op.quiet && (!o.op.reads || (List.range ops.size).all fun j => ((!(((as[j]?).map (·.op.stores)).getD true) || (boxStore fm ops j).isSome) && !ptrCall P ops j) || (mustOf ops j 8).contains i)).getD false

def kindOf (fm b : Bool) (ops : Array Oper) (as : Array AOper) (i : Nat) : Nat :=
  let m := mustOf ops i 8
  if (b || (((as[i]?).map (·.op.stores)).getD true && (boxStore fm ops i).isNone)) && (List.range ops.size).all fun j => j == i || !(ft P fm ops as j && ((as[j]?).map (·.op.reads)).getD true) || m.contains j then 2 else 1

/-- the boxes that have been made, behind one more operation -/
def frNext (fm : Bool) (ops : Array Oper) (fr : List Nat) (i : Nat) : List Nat := match ops[i]? with
  | some o => match o.dst with
    | some d => if fm && isAlloc o then d :: fr.filter (· != d) else fr.filter (· != d)
    | none => fr
  | none => fr

/-- the order in which a region that draws its order is told: whatever may be taken first as soon as it may come up; else the one that must come up, or whichever of a few; 'tail': what looks at memory is not taken first any more; 'fr': the boxes that have been made (what looks at memory is not taken behind them); 'm': so many choices -/
def plan (fm b : Bool) (ops : Array Oper) (as : Array AOper) : Nat → Nat → Bool → List Nat → Array Bool → Option DT
  | 0, _, _, _, listed => if Region.ready .any ops listed = [] then some (.fin []) else none
  | k + 1, m, tail, fr, listed =>
    let rs := Region.ready .any ops listed
    let must := fun (m' : Nat) (i : Nat) => if kindOf P fm b ops as i = 2 then match as[i]?, plan fm b ops as k m' true [] (listed.setIfInBounds i true) with
          | some a, some t => some (DT.cons (a, 2, i) t)
          | _, _ => none
        else if tail && !((as[i]?).map (·.op.quiet)).getD false then none else match boxStore fm ops i with
          | some c => if fr.contains c then match as[i]?, plan fm b ops as k m' tail (frNext fm ops fr i) (listed.setIfInBounds i true) with
            | some a, some t => some (DT.cons (a, 3, i) t)
            | _, _ => none else none
          | none => match as[i]?, plan fm b ops as k m' tail (frNext fm ops fr i) (listed.setIfInBounds i true) with
            | some a, some t => some (DT.cons (a, 1, i) t)
            | _, _ => none
    match rs.find? (fun i => ft P fm ops as i && !((tail || !fr.isEmpty) && ((as[i]?).map (·.op.reads)).getD true) && Region.free .any ops listed i) with
    | some i => match as[i]?, plan fm b ops as k m tail (frNext fm ops fr i) (listed.setIfInBounds i true) with
      | some a, some t => some (DT.cons (a, 0, i) t)
      | _, _ => none
    | none => match rs, m with
      | [i], _ => must m i
      | [i, j], m' + 1 => match must m' i, must m' j with
        | some a, some b => some (.alt [] a b)
        | _, _ => none
      | _, _ => none

/-- what changes memory by its own kind alone, if it can't be told else; and with boxes that the region makes -/
def planAny (ops : Array Oper) (as : Array AOper) : Option DT := match plan P false true ops as ops.size 6 false [] (Array.replicate ops.size false) with
  | some t => some t
  | none => match plan P false false ops as ops.size 6 false [] (Array.replicate ops.size false) with
    | some t => some t
    | none => plan P true false ops as ops.size 6 false [] (Array.replicate ops.size false)
theorem planAny_some {ops : Array Oper} {as : Array AOper} {t : DT} (h : planAny P ops as = some t) : ∃ fm b, plan P fm b ops as ops.size 6 false [] (Array.replicate ops.size false) = some t := by
  unfold planAny at h
  split at h
  · rename_i u hu
    cases h
    exact ⟨false, true, hu⟩
  · split at h
    · rename_i u hu
      cases h
      exact ⟨false, false, hu⟩
    · exact ⟨true, false, h⟩

def compRegion (ops : Array Oper) (draw : Bool) : Option ACode := do
  let l ← ops.toList.mapM (compOper P ops)
  if draw then
    if Region.noSelect ops then do some (.drawn (← planAny P ops l.toArray)) else none
  else some (.region l)

def compCode : Code → Option ACode
  | .skip => some .skip
  | .region _ ops draw => compRegion P ops draw
  | .seq a b => do some (.seq (← compCode a) (← compCode b))
  | .cond c t e => do some (.cond (← compArg P 0 c) (← compCode t) (← compCode e))
  | .block id b => (compCode b).map (.block id)
  | .loop b => (compCode b).map .loop
  | .exit id => some (.exit id)
  | .ret => some .ret
  | _ => none

def fitsD (N : Nat) (o : AOper) : Bool := match o.dst with
  | some d => decide (d < N)
  | none => true

def DT.fits (N : Nat) : DT → Bool
  | .fin l => l.all fun o => fitsD N o.1
  | .alt l a b => (l.all fun o => fitsD N o.1) && a.fits N && b.fits N

def ACode.fits (N : Nat) : ACode → Bool
  | .region ops => ops.all (fitsD N)
  | .drawn t => t.fits N
  | .seq a b => a.fits N && b.fits N
  | .cond _ t e => t.fits N && e.fits N
  | .block _ b => b.fits N
  | .loop b => b.fits N
  | _ => true

def compRes : ResultVar → Option ARes
  | .tmp t => some (.tmp t)
  | .cell a t => do some (.cell (← aggT P t) (← sizeT P t) a)

def compFunc (f : Nat) : Option AFunc := do
  let fn ← P.funcs[f]?
  let c ← fn.body
  let b ← compCode P c
  let rs ← fn.results.toList.mapM (compRes P)
  if b.fits fn.ntmps then some ⟨fn.params.size + fn.nfree, rs, b⟩ else none
end

/-! ### what an operation does -/

def rdC (agg : Bool) (m : Nat) (cs : List Cel) : Option AV :=
  if agg then (if m ≤ cs.length then some (.agg (cs.take m)) else none) else match cs with
  | x :: _ => some (.c x)
  | [] => none

def bitsV (op : BinOp) (k : IntKind) (x y : Int) : Int :=
  let a := BitVec.ofInt k.bits x
  let b := BitVec.ofInt k.bits y
  k.wrap (match op with | .and => (a &&& b).toNat | .or => (a ||| b).toNat | .xor => (a ^^^ b).toNat | _ => (a &&& ~~~b).toNat)

def binI (op : BinOp) (k : IntKind) (x y : Int) : Option Value :=
  match op with
  | .add => some (.int k (k.wrap (x + y)))
  | .sub => some (.int k (k.wrap (x - y)))
  | .mul => some (.int k (k.wrap (x * y)))
  | .quo => if y = 0 then none else some (.int k (k.wrap (x.tdiv y)))
  | .rem => if y = 0 then none else some (.int k (x.tmod y))
  | .and | .or | .xor | .andNot => some (.int k (bitsV op k x y))
  | .shl => if y < 0 then none else some (.int k (k.wrap (x * 2 ^ (min y.toNat k.bits))))
  | .shr => if y < 0 then none else some (.int k (x.fdiv (2 ^ (min y.toNat k.bits))))
  | .eql => some (.bool (decide (x = y)))
  | .neq => some (.bool (!decide (x = y)))
  | .lss => some (.bool (decide (x < y)))
  | .leq => some (.bool (decide (x ≤ y)))
  | .gtr => some (.bool (decide (y < x)))
  | .geq => some (.bool (decide (y ≤ x)))

def binS (op : BinOp) (x y : List UInt8) : Option Cel :=
  match op with
  | .add => if x.length + y.length ≤ 9223372036854775807 then some (.str (x ++ y)) else none
  | .eql => some (.val (.bool (decide (x = y))))
  | .neq => some (.val (.bool (!decide (x = y))))
  | .lss => some (.val (.bool (Op.bytesLess x y)))
  | .geq => some (.val (.bool (!Op.bytesLess x y)))
  | .gtr => some (.val (.bool (!(Op.bytesLess x y || decide (x = y)))))
  | .leq => some (.val (.bool (Op.bytesLess x y || decide (x = y))))
  | _ => none

def eqC : EK → Cel → Cel → Option Bool
  | .i, .val (.int k a), .val (.int k' b) => if k = k' then some (decide (a = b)) else none
  | .b, .val (.bool a), .val (.bool b) => some (a == b)
  | .s, .str a, .str b => some (decide (a = b))
  | _, _, _ => none

def eqCs : List EK → List Cel → List Cel → Option Bool
  | [], [], [] => some true
  | k :: ks, x :: xs, y :: ys => (eqC k x y).bind fun a => (eqCs ks xs ys).map (a && ·)
  | _, _, _ => none

def unV (op : UnOp) : Value → Option Value
  | .int k n => match op with
    | .neg => some (.int k (k.wrap (0 - n)))
    | .xor => some (.int k (bitsV .xor k (if k.signed then -1 else k.max) n))
    | _ => none
  | .bool b => match op with
    | .not => some (.bool (!b))
    | _ => none
  | _ => none

def fillC (zero : List Cel) : List (Nat × Nat × List Cel) → Option (List Cel)
  | [] => some zero
  | (off, n, l) :: r => if l.length = n ∧ off + n ≤ zero.length then fillC (zero.take off ++ l ++ zero.drop (off + n)) r else none

def fillE (sz : Nat) (es : List (List Cel)) : List (Nat × List Cel) → Option (List (List Cel))
  | [] => some es
  | (i, l) :: r => if l.length = sz ∧ i < es.length then fillE sz (es.set i l) r else none

def AV.flat : AV → Option (List Cel)
  | .c x => some [x]
  | .agg l => some l
  | .tup _ => none

def cellsOfArg (Γ : Glob) (env : Nat → Option AV) (x : Arg) : Option (List Cel) := (x.get Γ env).bind AV.flat

def AV.int? : AV → Option Int
  | .c (.val (.int _ n)) => some n
  | _ => none

def getI (Γ : Glob) (env : Nat → Option AV) (x : Arg) : Option Int := (x.get Γ env).bind AV.int?

/-- a bound of a cut: none: the default -/
def boundI (Γ : Glob) (env : Nat → Option AV) (d : Nat) (hi : Nat) : Option Arg → Option Nat
  | none => some d
  | some x => match getI Γ env x with
    | some n => if 0 ≤ n ∧ n ≤ hi then some n.toNat else none
    | none => none

def slContent (h : Heap) (sz : Nat) : Cel → Option (List (List Cel))
  | .ro _ s xs => if s = sz || xs.isEmpty then some xs else none
  | .emp _ => some []
  | .own b s off len _ => match h b with
    | some (.cells s' es) => if s = sz ∧ s' = sz ∧ off + len ≤ es.length then some ((es.drop off).take len) else none
    | _ => none
  | _ => none

def byteCel (b : UInt8) : List Cel := [.val (.int .u8 b.toNat)]
def celByte : List Cel → Option UInt8
  | [.val (.int .u8 n)] => some (UInt8.ofNat n.toNat)
  | _ => none

def pickV (t : Bool) : Option AV → Option AV → Option AV
  | some (.c (.val (.bool p))), some (.c (.val (.bool q))) => some (.c (.val (.bool (cond t p q))))
  | x, y => if t then x else y

def mm2 (isMax : Bool) : Option Value → Option Value → Option Value
  | some (.int k x), some (.int _ y) => some (.int k (if isMax then (if y > x then y else x) else (if y < x then y else x)))
  | _, _ => none

def valOf : AV → Option Value
  | .c (.val v) => some v
  | _ => none

def celOf : AV → Option Cel
  | .c x => some x
  | _ => none

/-- Nothing of the call's own in it. -/
def Cel.free : Cel → Bool
  | .val _ | .str _ | .ro .. | .rop _ | .emp _ | .opq => true
  | .fn _ [] [] => true
  | _ => false
def freeL (l : List Cel) : Bool := l.all Cel.free
def AV.freeV : AV → Bool
  | .c x => x.free
  | .agg l => freeL l
  | .tup _ => false
def celEq : Cel → Cel → Bool
  | .val (.int _ a), .val (.int _ b) => decide (a = b)
  | .str a, .str b => decide (a = b)
  | .val (.bool a), .val (.bool b) => a == b
  | _, _ => false
def findC (k : Cel) : List (Cel × AV) → Option AV
  | [] => none
  | p :: r => if celEq k p.1 then some p.2 else findC k r
def putC (k : Cel) (v : AV) : List (Cel × AV) → List (Cel × AV)
  | [] => [(k, v)]
  | p :: r => if celEq k p.1 then (k, v) :: r else p :: putC k v r
def lookV (z : AV) (ok : Bool) : Option AV → AV
  | some v => if ok then .tup [v, .c (.val (.bool true))] else v
  | none => if ok then .tup [z, .c (.val (.bool false))] else z

section
variable (Γ : Glob)

def step1 (st : St) : AOp → Option AV
  | .mov x => x.get Γ st.env
  | .pick c a b => match c.get Γ st.env with
    | some (.c (.val (.bool t))) => pickV t (a.get Γ st.env) (b.get Γ st.env)
    | _ => none
  | .build z ps => do
    let l ← ps.mapM fun (o, n, x) => (cellsOfArg Γ st.env x).map fun l => (o, n, l)
    (fillC z l).map .agg
  | .load agg m a => match a.get Γ st.env with
    | some (.c (.ref b sz i j)) => match st.h b with
      | some (.cells s es) => if s = sz then match es[i]? with
          | some e => rdC agg m (e.drop j)
          | none => none
        else none
      | _ => none
    | some (.c (.rop cs)) => rdC agg m cs
    | _ => none
  | .nilc x => match x.get Γ st.env with
    | some (.c (.ref b sz i j)) => some (.c (.ref b sz i j))
    | some (.c (.rop cs)) => some (.c (.rop cs))
    | _ => none
  | .bin op x y => match x.get Γ st.env, y.get Γ st.env with
    | some (.c (.val (.int k a))), some (.c (.val (.int k' b))) => if k = k' ∨ op = .shl ∨ op = .shr then (binI op k a b).map fun v => .c (.val v) else none
    | some (.c (.str a)), some (.c (.str b)) => (binS op a b).map .c
    | _, _ => none
  | .eqs neg true l x y => match x.get Γ st.env, y.get Γ st.env with
    | some (.agg a), some (.agg b) => (eqCs l a b).map fun t => .c (.val (.bool (if neg then !t else t)))
    | _, _ => none
  | .eqs neg false l x y => match x.get Γ st.env, y.get Γ st.env with
    | some (.c a), some (.c b) => (eqCs l [a] [b]).map fun t => .c (.val (.bool (if neg then !t else t)))
    | _, _ => none
  | .eqn neg x => match x.get Γ st.env with
    | some (.c (.ro true _ _)) => some (.c (.val (.bool (!neg))))
    | some (.c (.own ..)) => some (.c (.val (.bool neg)))
    | _ => none
  | .eqi neg x => match x.get Γ st.env with
    | some (.c (.val .nilIface)) => some (.c (.val (.bool (!neg))))
    | some (.c (.val (.iface _ _))) => some (.c (.val (.bool neg)))
    | some (.c .opq) => some (.c (.val (.bool neg)))
    | _ => none
  | .un op x => match x.get Γ st.env with
    | some (.c (.val v)) => (unV op v).map fun v => .c (.val v)
    | _ => none
  | .conv k x => match x.get Γ st.env with
    | some (.c (.val (.int _ n))) => some (.c (.val (.int k (k.wrap n))))
    | _ => none
  | .cvS x => match x.get Γ st.env with
    | some (.c (.str l)) => some (.c (.str l))
    | _ => none
  | .ofBytes x => match x.get Γ st.env with
    | some (.c x) => do
      let es ← slContent st.h 1 x
      let l ← es.mapM celByte
      some (.c (.str l))
    | _ => none
  | .mkif => some (.c .opq)
  | .mkfn f first captured => do
    let a ← first.mapM fun x => (x.get Γ st.env).bind celOf
    let b ← captured.mapM fun x => (x.get Γ st.env).bind celOf
    some (.c (.fn f a b))
  | .slStr x lo hi => match x.get Γ st.env with
    | some (.c (.str l)) => match boundI Γ st.env l.length l.length hi with
      | some h => match boundI Γ st.env 0 h lo with
        | some a => some (.c (.str ((l.take h).drop a)))
        | none => none
      | none => none
    | _ => none
  | .slSl sz x lo hi none => match x.get Γ st.env with
    | some (.c (.ro nl s xs)) => if s = sz || xs.isEmpty then match boundI Γ st.env xs.length xs.length hi with
      | some h => match boundI Γ st.env 0 h lo with
        | some a => some (.c (.ro nl s ((xs.take h).drop a)))
        | none => none
      | none => none
      else none
    | some (.c (.own b s off len m)) => if s = sz then match boundI Γ st.env len m hi with
      | some h => match boundI Γ st.env 0 h lo with
        | some a => some (.c (.own b s (off + a) (h - a) (m - a)))
        | none => none
      | none => none
      else none
    | _ => none
  | .slSl sz x lo hi (some mx) => match x.get Γ st.env with
    | some (.c (.ro nl s _)) => match boundI Γ st.env 0 0 (some mx), boundI Γ st.env 0 0 hi, boundI Γ st.env 0 0 lo with
      | some _, some _, some _ => if hi.isSome then some (.c (if nl then .ro true s [] else .emp sz)) else none
      | _, _, _ => none
    | some (.c (.own b s off _ m)) => if s = sz ∧ hi.isSome then match boundI Γ st.env m m (some mx) with
      | some c => match boundI Γ st.env c c hi with
        | some h => match boundI Γ st.env 0 h lo with
          | some a => some (.c (.own b s (off + a) (h - a) (c - a)))
          | none => none
        | none => none
      | none => none
      else none
    | _ => none
  | .faddr off x => match x.get Γ st.env with
    | some (.c (.ref b sz i j)) => some (.c (.ref b sz i (j + off)))
    | some (.c (.rop cs)) => some (.c (.rop (cs.drop off)))
    | _ => none
  | .fld agg off m x => match x.get Γ st.env with
    | some (.agg cs) => rdC agg m (cs.drop off)
    | _ => none
  | .iaddr sz x i => match x.get Γ st.env, getI Γ st.env i with
    | some (.c (.ro _ s xs)), some n => if 0 ≤ n ∧ s = sz then match xs[n.toNat]? with
        | some e => some (.c (.rop e))
        | none => none
      else none
    | some (.c (.own b s off len _)), some n => if 0 ≤ n ∧ n < len ∧ s = sz then some (.c (.ref b s (off + n.toNat) 0)) else none
    | _, _ => none
  | .iaddrA len sz x i => match x.get Γ st.env, getI Γ st.env i with
    | some (.c (.ref b s k j)), some n => if 0 ≤ n ∧ n < len then some (.c (.ref b s k (j + n.toNat * sz))) else none
    | some (.c (.rop cs)), some n => if 0 ≤ n ∧ n < len then some (.c (.rop (cs.drop (n.toNat * sz)))) else none
    | _, _ => none
  | .idxS x i => match x.get Γ st.env, getI Γ st.env i with
    | some (.c (.str l)), some n => if 0 ≤ n then match l[n.toNat]? with
        | some b => some (.c (.val (.int .u8 b.toNat)))
        | none => none
      else none
    | _, _ => none
  | .idxA agg len sz x i => match x.get Γ st.env, getI Γ st.env i with
    | some (.agg cs), some n => if 0 ≤ n ∧ n < len then rdC agg sz (cs.drop (n.toNat * sz)) else none
    | _, _ => none
  | .ext x i => match x.get Γ st.env with
    | some (.tup vs) => vs[i]?
    | _ => none
  | .lenS x => match x.get Γ st.env with
    | some (.c (.str l)) => some (.c (.val (.int .i64 l.length)))
    | _ => none
  | .len x => match x.get Γ st.env with
    | some (.c (.ro _ _ xs)) => some (.c (.val (.int .i64 xs.length)))
    | some (.c (.own _ _ _ len _)) => some (.c (.val (.int .i64 len)))
    | some (.c (.emp _)) => some (.c (.val (.int .i64 0)))
    | _ => none
  | .lenA n => some (.c (.val (.int .i64 n)))
  | .mm isMax xs => match xs with
    | [] => none
    | x :: r => (r.foldl (fun acc y => mm2 isMax acc ((y.get Γ st.env).bind valOf)) ((x.get Γ st.env).bind valOf)).bind fun v => match v with
      | .int k n => some (.c (.val (.int k n)))
      | _ => none
  | .mlook m z ok x k => match x.get Γ st.env, k.get Γ st.env with
    | some (.c (.val (.map none))), some (.c kc) => if m.ok kc then some (lookV z ok none) else none
    | some (.c (.mp b)), some (.c kc) => match st.h b with
      | some (.mapb m' es) => if m = m' ∧ m.ok kc = true then some (lookV z ok (findC kc es)) else none
      | _ => none
    | _, _ => none
  | _ => none

/-- a new row that holds what is appended to nothing -/
def freshC (h : Heap) (n sz bytes : Nat) (news : List (List Cel)) : Option (Option AV × Heap × Nat) :=
  if news.length * bytes ≤ 140737488355328 then some (some (.c (.own n sz 0 news.length news.length)), upd h n (some (.cells sz news)), n + 1) else none

def appendC (h : Heap) (n sz bytes : Nat) (x : Cel) (news : List (List Cel)) : Option (Option AV × Heap × Nat) :=
  match x with
  | .ro nl s xs => if news.isEmpty then some (some (.c (.ro nl s xs)), h, n + 1) else if nl then freshC h n sz bytes news else none
  | .emp s => if news.isEmpty then some (some (.c (.emp s)), h, n + 1) else freshC h n sz bytes news
  | .own b s off len _ => match h b with
    | some (.cells s' es) =>
      if s = sz ∧ s' = sz ∧ off = 0 ∧ len ≤ es.length ∧ (len + news.length) * bytes ≤ 140737488355328 then
        some (some (.c (.own n sz 0 (len + news.length) (len + news.length))), upd (upd h b none) n (some (.cells sz (es.take len ++ news))), n + 1)
      else none
    | _ => none
  | _ => none

def step2 (st : St) : AOp → Option (Option AV × Heap × Nat)
  | .mkmap m => some (some (.c (.mp st.n)), upd st.h st.n (some (.mapb m [])), st.n + 1)
  | .mput m x k v => match x.get Γ st.env, k.get Γ st.env, v.get Γ st.env with
    | some (.c (.mp b)), some (.c kc), some va => match st.h b with
      | some (.mapb m' es) => if m = m' ∧ m.ok kc = true ∧ va.freeV = true then some (none, upd st.h b (some (.mapb m (putC kc va es))), st.n) else none
      | _ => none
    | _, _, _ => none
  | .boxB T => some (some (.c (.ref (st.n + 1) 2 0 0)), upd st.h (st.n + 1) (some (.bld T true st.n 0)), st.n + 2)
  | .box x => match cellsOfArg Γ st.env x with
    | some l => some (some (.c (.ref st.n l.length 0 0)), upd st.h st.n (some (.cells l.length [l])), st.n + 1)
    | none => none
  | .bslice sz z len ps => do
    let l ← ps.mapM fun (i, x) => (cellsOfArg Γ st.env x).map fun l => (i, l)
    let es ← fillE sz (List.replicate len z) l
    some (some (.c (.own st.n sz 0 len len)), upd st.h st.n (some (.cells sz es)), st.n + 1)
  | .store m a x => match a.get Γ st.env, cellsOfArg Γ st.env x with
    | some (.c (.ref b sz i j)), some l => match st.h b with
      | some (.cells s es) => match es[i]? with
        | some e => if s = sz ∧ l.length = m ∧ j + m ≤ e.length then some (none, upd st.h b (some (.cells s (es.set i (e.take j ++ l ++ e.drop (j + m))))), st.n) else none
        | none => none
      | _ => none
    | _, _ => none
  | .toBytes x => match x.get Γ st.env with
    | some (.c (.str l)) => some (some (.c (.own st.n 1 0 l.length l.length)), upd st.h st.n (some (.cells 1 (l.map byteCel))), st.n + 1)
    | _ => none
  | .mksl sz bytes z l c => match getI Γ st.env l, getI Γ st.env c with
    | some a, some b => if 0 ≤ a ∧ a ≤ b ∧ b.toNat * bytes ≤ 140737488355328 ∧ b ≤ 140737488355328 then some (some (.c (.own st.n sz 0 a.toNat b.toNat)), upd st.h st.n (some (.cells sz (List.replicate b.toNat z))), st.n + 1) else none
    | _, _ => none
  | .app sz bytes x y => match x.get Γ st.env, y.get Γ st.env with
    | some (.c a), some (.c b) => match slContent st.h sz b with
      | some news => appendC st.h st.n sz bytes a news
      | none => none
    | _, _ => none
  | .appS x y => match x.get Γ st.env, y.get Γ st.env with
    | some (.c a), some (.c (.str l)) => appendC st.h st.n 1 1 a (l.map byteCel)
    | _, _ => none
  | .cpy sz x y => match x.get Γ st.env, y.get Γ st.env with
    | some (.c (.own b s off len _)), some (.c y) => match st.h b, slContent st.h sz y with
      | some (.cells s' es), some ys =>
        if s = sz ∧ s' = sz ∧ off + len ≤ es.length then
          some (some (.c (.val (.int .i64 (min ys.length len)))), upd st.h b (some (.cells sz (es.take off ++ ys.take len ++ es.drop (off + min ys.length len)))), st.n)
        else none
      | _, _ => none
    | _, _ => none
  | .clr sz z x => match x.get Γ st.env with
    | some (.c (.own b s off len _)) => match st.h b with
      | some (.cells s' es) => if s = sz ∧ s' = sz ∧ off + len ≤ es.length then some (none, upd st.h b (some (.cells sz (es.take off ++ List.replicate len z ++ es.drop (off + len)))), st.n) else none
      | _ => none
    | some (.c (.ro true _ _)) => some (none, st.h, st.n)
    | _ => none
  | .slArr len sz x lo hi => match x.get Γ st.env with
    | some (.c (.ref b s 0 0)) => match st.h b with
      | some (.cells s' [e]) =>
        if s = len ∧ s' = len ∧ sz = 1 ∧ e.length = len then match boundI Γ st.env len len hi with
          | some h => match boundI Γ st.env 0 h lo with
            | some a => some (some (.c (.own st.n 1 a (h - a) (len - a))), upd (upd st.h b none) st.n (some (.cells 1 (e.map fun c => [c]))), st.n + 1)
            | none => none
          | none => none
        else none
      | _ => none
    | _ => none
  | .rangeS x => match x.get Γ st.env with
    | some (.c (.str l)) => some (some (.c (.ref st.n 0 0 0)), upd st.h st.n (some (.iter ⟨l.toArray⟩ 0)), st.n + 1)
    | _ => none
  | .nextS x => match x.get Γ st.env with
    | some (.c (.ref b 0 0 0)) => match st.h b with
      | some (.iter s pos) =>
        if pos < s.size then some (some (.tup [.c (.val (.bool true)), .c (.val (.int .i64 pos)), .c (.val (.int .i32 (Utf8.decode s pos).1))]), upd st.h b (some (.iter s (pos + (Utf8.decode s pos).2))), st.n)
        else some (some (.tup [.c (.val (.bool false))]), st.h, st.n)
      | _ => none
    | _ => none
  | .rangeM x => match x.get Γ st.env with
    | some (.c (.mp b)) => match st.h b with
      | some (.mapb m es) => some (some (.c (.ref st.n 0 0 0)), upd (upd st.h b none) st.n (some (.mit m none es)), st.n + 1)
      | _ => none
    | _ => none
  | .entryM x => match x.get Γ st.env with
    | some (.c (.ref b 0 0 0)) => match st.h b with
      | some (.mit _ (some p) _) => some (some (.tup [.c p.1, p.2]), st.h, st.n)
      | _ => none
    | _ => none
  | _ => none
end

end Go.Proofs.YtolmbcngghkfiaaDoorBv
