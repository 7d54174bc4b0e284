/- The calculus: rows of a type that holds itself, told cell by cell, and read one level at a time. It proves nothing of any program. -/
import Derived.Test.YtnfgjdbajefoiaaGreatDoorBv52
import Derived.Test.YtnfgjdbajefoiaaGreatDoorBv23
namespace Go.Proofs.YtnfgjdbajefoiaaGreatDoorBv
open Go
set_option linter.unusedVariables false
set_option linter.unusedSimpArgs false
structure Raw where
 c:List Cel
 ok:freeL c=true
def eRaw (r:Raw):List Cel:=r.c
def dRaw (c:List Cel):Option Raw:=if h:freeL c=true then some ⟨c,h⟩ else none
theorem raw_eq {r:Raw}{l:List Cel}(hl:freeL l=true) (h:r.c=l):r=⟨l,hl⟩:=by
 cases r; subst h; rfl
theorem dRaw_s {c:List Cel}{r:Raw}(h:dRaw c=some r):c=eRaw r:=by
 unfold dRaw at h
 split at h
 ·cases h; rfl
 ·cases h
theorem dRaw_c (r:Raw):dRaw (eRaw r)=some r:=dif_pos r.ok
theorem fr_raw (r:Raw):freeL (eRaw r)=true:=r.ok
theorem raws_of {xs:List (List Cel)}(h:∀ x,x ∈ xs→freeL x=true):∃ ps:List Raw,xs=ps.map eRaw:=by
 induction xs with
 | nil=>exact ⟨[],rfl⟩
 | cons x r ih =>
  obtain ⟨ps,e⟩:=ih fun y hy=>h y (List.mem_cons_of_mem _ hy)
  have hx:freeL x=true:=h x (List.mem_cons_self ..)
  clear h ih
  subst e
  exact ⟨⟨x,hx⟩::ps,rfl⟩
theorem freeL_app {a b:List Cel}(ha:freeL a=true) (hb:freeL b=true):freeL (a ++ b)=true:=by
 unfold freeL at *; rw [List.all_append,ha,hb]; rfl
theorem Cat_free {S:TypeId→List Cel→Prop}(hS:∀ t l,S t l→freeL l=true):∀(ts:List TypeId) (l:List Cel),Cat S ts l→freeL l=true
 | [],l,h=>by rw [Cat] at h; subst h; rfl
 | t::ts,l,h=>by
  rw [Cat] at h
  obtain ⟨a,b,rfl,h1,h2⟩:=h
  exact freeL_app (hS t a h1) (Cat_free hS ts b h2)
theorem Shape_free {P:Program}:∀{d:Nat}{t:TypeId}{l:List Cel},Shape P d t l→freeL l=true
 | 0,_,_,h=>h.elim
 | d+1,t,l,h=>by
  rw [Shape] at h
  cases hu:P.underlying t with
  | none=>rw [hu] at h; exact h.elim
  | some x =>
   rw [hu] at h
   cases x with
   | bool=>obtain ⟨b,rfl⟩:=h; rfl
   | int k=>obtain ⟨n,_,rfl⟩:=h; rfl
   | string=>obtain ⟨s,_,rfl⟩:=h; rfl
   | slice e=>obtain ⟨xs,rfl,_⟩:=h; rfl
   | struct fs=>exact Cat_free (fun t l h=>Shape_free h) _ _ h
   | array n e=>exact Cat_free (fun t l h=>Shape_free h) _ _ h
   | _=>exact h.elim
def dI:Cel→Option Int
 | .val (.int .i64 n)=>some n
 | _=>none
def dK (k:IntKind):Cel→Option Int
 | .val (.int k' n)=>if k' = k then some n else none
 | _=>none
def dS:Cel→Option (List UInt8)
 | .str l=>some l
 | _=>none
def d1 {α:Type}(f:Cel→Option α):List Cel→Option α
 | [c]=>f c
 | _=>none
def dAll {α:Type}(d:List Cel→Option α):List (List Cel)→Option (List α)
 | []=>some []
 | x::r=>(d x).bind fun a=>(dAll d r).bind fun l=>some (a::l)
def dSl {α:Type}(sz:Nat) (d:List Cel→Option α):Cel→Option (List α)
 | .ro false s xs=>if s=sz then dAll d xs else none
 | _=>none
theorem dI_s {c:Cel}{n:Int}(h:dI c=some n):c=cI n:=by
 unfold dI at h
 split at h
 ·cases h; rfl
 ·cases h
theorem dK_s {k:IntKind}{c:Cel}{n:Int}(h:dK k c=some n):c = .val (.int k n):=by
 unfold dK at h
 split at h
 ·split at h
  ·rename_i e; subst e; cases h; rfl
  ·cases h
 ·cases h
theorem dS_s {c:Cel}{l:List UInt8}(h:dS c=some l):c = .str l:=by
 unfold dS at h
 split at h
 ·cases h; rfl
 ·cases h
theorem d1_s {α:Type}{f:Cel→Option α}{g:α→Cel}(hf:∀ c a,f c=some a→c=g a) {r:List Cel}{a:α}(h:d1 f r=some a):r=[g a]:=by
 unfold d1 at h
 split at h
 ·rw [hf _ _ h]
 ·cases h
theorem dAll_s {α:Type}{d:List Cel→Option α}{e:α→List Cel}(hd:∀ r a,d r=some a→r=e a):∀{xs:List (List Cel)}{l:List α},dAll d xs=some l→xs=l.map e
 | [],l,h=>by cases h; rfl
 | x::r,l,h=>by
  obtain ⟨a,h1,h⟩:=Option.bind_eq_some_iff.1 h
  obtain ⟨m,h2,h⟩:=Option.bind_eq_some_iff.1 h
  cases h
  rw [List.map_cons,← hd _ _ h1,← dAll_s hd h2]
theorem dAll_c {α:Type}{d:List Cel→Option α}{e:α→List Cel}(hd:∀ a,d (e a)=some a):∀ l:List α,dAll d (l.map e)=some l
 | []=>rfl
 | a::r=>by rw [List.map_cons,dAll,hd,Option.bind_some,dAll_c hd r]; rfl
theorem dSl_s {α:Type}{sz:Nat}{d:List Cel→Option α}{e:α→List Cel}(hd:∀ r a,d r=some a→r=e a) {c:Cel}{l:List α}(h:dSl sz d c=some l):c = .ro false sz (l.map e):=by
 unfold dSl at h
 split at h
 ·split at h
  ·rename_i e; subst e; rw [← dAll_s hd h]
  ·cases h
 ·cases h
theorem dSl_c {α:Type}{sz:Nat}{d:List Cel→Option α}{e:α→List Cel}(hd:∀ a,d (e a)=some a) (l:List α):dSl sz d (.ro false sz (l.map e))=some l:=by
 unfold dSl
 dsimp only
 rw [if_pos rfl,dAll_c hd]
theorem d1Sl_c {α:Type}{sz:Nat}{d:List Cel→Option α}{e:α→List Cel}(hd:∀ a,d (e a)=some a) (l:List α):d1 (dSl sz d) (eSl sz e l)=some l:=dSl_c hd l
theorem d1K_c (k:IntKind) (x:Int):d1 (dK k) (eK k x)=some x:=if_pos rfl
theorem bulk_in {y:List Cel}:∀{l:List (List Cel)},y ∈ l→bulkL y≤bulkE l
 | x::r,h=>by
  simp only [bulkE]
  rcases List.mem_cons.1 h with rfl | h
  ·omega
  ·have:=bulk_in h; omega
end Go.Proofs.YtnfgjdbajefoiaaGreatDoorBv
