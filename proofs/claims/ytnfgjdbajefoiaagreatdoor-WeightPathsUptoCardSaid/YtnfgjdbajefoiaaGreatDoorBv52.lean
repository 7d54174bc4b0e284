/- The calculus: arguments of types that hold themselves, read as values of the calculus: by their data's size. It proves nothing of any program. -/
import Derived.Test.YtnfgjdbajefoiaaGreatDoorBv31
namespace Go.Proofs.YtnfgjdbajefoiaaGreatDoorBv
open Go
set_option linter.unusedVariables false
set_option linter.unusedSimpArgs false
theorem Cat_mono {S S' : TypeId→List Cel→Prop}(h:∀ t l,S t l→S' t l):∀{ts:List TypeId}{l:List Cel},Cat S ts l→Cat S' ts l
 | [],_,k=>k
 | _::_,_,⟨a,b,e,h1,h2⟩=>⟨a,b,e,h _ _ h1,Cat_mono h h2⟩
theorem Shape_succ {P:Program}:∀{d:Nat}{t:TypeId}{l:List Cel},Shape P d t l→Shape P (d+1) t l
 | 0,_,_,h=>h.elim
 | d+1,t,l,h=>by
  rw [Shape] at h ⊢
  cases hu:P.underlying t with
  | none=>rw [hu] at h; exact h.elim
  | some x =>
   rw [hu] at h
   cases x <;> first
    | exact h
    | (obtain ⟨xs,e,h1,h2⟩:=h; exact ⟨xs,e,h1,fun x hx=>Shape_succ (h2 x hx)⟩)
    | exact Cat_mono (fun t l k=>Shape_succ k) h
theorem Shape_mono {P:Program}{d d' : Nat}{t:TypeId}{l:List Cel}(h:Shape P d t l) (hd:d≤d'):Shape P d' t l:=by
 obtain ⟨k,rfl⟩:∃ k,d' = d+k:=⟨d' - d,by omega⟩
 clear hd
 induction k with
 | zero=>exact h
 | succ k ih=>exact Shape_succ ih
def oneT (P:Program) (G:List TypeId) (t:TypeId):Bool:=match P.underlying t with
 | some .bool | some (.int _) | some .string=>P.cellsOf t == 1
 | some (.slice e)=>P.cellsOf t == 1&&(decide (1≤P.bytesOf e)&&G.contains e)
 | some (.struct fs)=>tiles P (P.cellsOf t) 0 (fs.toList.map fun f=>(f.offset,f.type))&&fs.toList.all (fun f=>G.contains f.type)
 | some (.array n e)=>tiles P (P.cellsOf t) 0 ((List.range n).map fun i=>(i * P.cellsOf e,e))&&G.contains e
 | _=>false
theorem bound_all {Q:Nat→Nat→Prop}(hm:∀ i d,Q i d→Q i (d+1)):∀(n:Nat),(∀ i,i<n→∃ d,Q i d)→∃ D,∀ i,i<n→Q i D
 | 0,_=>⟨0,fun i h=>absurd h (Nat.not_lt_zero i)⟩
 | n+1,h=>by
  obtain ⟨D,hD⟩:=bound_all hm n fun i hi=>h i (by omega)
  obtain ⟨d,hd⟩:=h n (Nat.lt_succ_self n)
  have up:∀ i a k,Q i a→Q i (a+k):=fun i a k ha=>by
   induction k with
   | zero=>exact ha
   | succ k ih=>exact hm _ _ ih
  refine ⟨D+d,fun i hi=>?_⟩
  by_cases e:i=n
  ·subst e
   rw [Nat.add_comm]
   exact up _ _ _ hd
  ·exact up _ _ _ (hD i (by omega))
theorem bulk_rows {H:Type}(f:Nat→List Cel) (g:Nat→DataW H):∀ L:List Nat,(∀ i ∈ L,bulkL (f i)≤bulkD (g i))→bulkE (L.map f)≤bulkDs (L.map g)
 | [],_=>by simp [bulkE]
 | i::r,h=>by
  have h1:=h i List.mem_cons_self
  have h2:=bulk_rows f g r fun j hj=>h j (List.mem_cons_of_mem _ hj)
  simp only [List.map_cons,bulkE,bulkDs]
  omega
theorem bulkD_mem {H:Type}{d:DataW H}:∀{l:List (DataW H)},d ∈ l→bulkD d≤bulkDs l
 | x::r,h=>by
  simp only [bulkDs]
  rcases List.mem_cons.1 h with rfl | h
  ·omega
  ·have:=bulkD_mem h; omega
section
variable {H : Type} {enc : TypeId × Value → H} {P : Program} {base : Nat} {spare : Nat → Bool} {held : Bool} {K : Ctx}
def OpensN (enc:TypeId×Value→H) (P:Program) (base:Nat) (spare:Nat→Bool) (held:Bool) (K:Ctx) (N:Nat) (t:TypeId):Prop :=
 ∀(fuel:Nat) (cs:List Value) (x:DataW H×List MemPlace),DataW.trod enc P K.w base spare held fuel t cs=some x→bulkD x.1≤N→(∀ n ∈ x.1.weights P t,n≤reachBytes) →
  ∃ l:List Cel,l.length=cs.length∧(∀(i:Nat) (y:Cel),l[i]? = some y→RelC K y (cs.getD i undef))∧(∃ D,Shape P D t l)∧bulkL l≤bulkD x.1
theorem cat_openN {N:Nat}{cs:List Value}{total:Nat}(hl:cs.length=total):∀(r:List (Nat×TypeId)) (ps:List (DataW H)) (off:Nat),tiles P total off r=true→r.length=ps.length→(∀ p ∈ r,OpensN enc P base spare held K N p.2)→bulkDs ps≤N →
  (∀(i:Nat) o t x,r[i]? = some (o,t)→ps[i]? = some x→∃ fuel q,DataW.trod enc P K.w base spare held fuel t ((cs.drop o).take (P.cellsOf t))=some (x,q)∧∀ n ∈ x.weights P t,n≤reachBytes) →
  ∃ l:List Cel,off+l.length=total∧(∀(i:Nat) (y:Cel),l[i]? = some y→RelC K y (cs.getD (off+i) undef))∧(∃ D,Cat (Shape P D) (r.map (·.2)) l)∧bulkL l≤bulkDs ps
 | [],[],off,ht,_,_,_,_=>⟨[],by simp [tiles] at ht; simpa using ht,fun i y h=>by simp at h,⟨0,rfl⟩,by simp [bulkL]⟩
 | [],_::_,_,_,h,_,_,_=>by simp at h
 | _::_,[],_,_,h,_,_,_=>by simp at h
 | (o,t)::r,p::ps,off,ht,hrl,ho,hN,hx=>by
  simp only [tiles,Bool.and_eq_true,beq_iff_eq] at ht
  obtain ⟨rfl,ht⟩:=ht
  have hle:=tiles_le r _ ht
  simp only [bulkDs] at hN
  obtain ⟨b,hb1,hb2,⟨D1,hb3⟩,hb4⟩:=cat_openN hl r ps _ ht (by simpa using hrl) (fun p hp=>ho p (List.mem_cons_of_mem _ hp)) (by omega) (fun i o t x h h' => hx (i+1) o t x (by simpa using h) (by simpa using h'))
  obtain ⟨fuel,q,hf,hwf⟩:=hx 0 o t p rfl rfl
  obtain ⟨a,ha1,ha2,⟨D2,ha3⟩,ha4⟩:=ho (o,t) (List.mem_cons_self ..) fuel _ _ hf (by show bulkD p≤N; omega) hwf
  have hlen:a.length=P.cellsOf t:=by rw [ha1]; simp; omega
  refine ⟨a ++ b,by rw [List.length_append]; omega,fun i y hy=>?_,⟨D1+D2,a,b,rfl,Shape_mono ha3 (Nat.le_add_left _ _),Cat_mono (fun t l k=>Shape_mono k (Nat.le_add_right _ _)) hb3⟩,?_⟩
  ·by_cases hi:i<a.length
   ·rw [List.getElem?_append_left hi] at hy
    have:=ha2 i y hy
    have e:((cs.drop o).take (P.cellsOf t)).getD i undef=cs.getD (o+i) undef:=by
     simp only [List.getD,List.getElem?_take_of_lt (show i<P.cellsOf t by omega),List.getElem?_drop]
    rwa [e] at this
   ·rw [List.getElem?_append_right (by omega)] at hy
    have:=hb2 _ y hy
    rwa [show o+P.cellsOf t+(i - a.length)=o+i by omega] at this
  ·rw [bulkL_append]
   simp only [bulkDs]
   have:bulkL a≤bulkD p:=ha4
   omega
theorem opensN (hbare:K.bare=K) (hS:∀ k,k<K.w.heap.size→K.S k) {G:List TypeId}(hG:G.all (oneT P G)=true):∀(N:Nat) (t:TypeId),t ∈ G→OpensN enc P base spare held K N t:=by
 intro N
 induction N with
 | zero =>
  intro t ht fuel cs x hx hb
  have:0<bulkD x.1:=by
   cases x.1 with
   | lit l=>cases l <;> simp [bulkD]
   | _=>simp [bulkD]
  omega
 | succ N ih =>
  intro t ht fuel cs x hx hbk hwt
  have h:=List.all_eq_true.1 hG t ht
  simp only [oneT] at h
  split at h
  ·rename_i hu
   obtain ⟨b,rfl,e⟩:=DataW.trod_bool hu hx
   subst e
   refine ⟨[.val (.bool b)],rfl,fun i y hy=>?_,⟨1,by simp only [Shape,hu]; exact ⟨b,rfl⟩⟩,by simp [bulkL,bulkC,bulkD]⟩
   cases i with
   | zero=>simp at hy; subst hy; exact .val rfl
   | succ i=>simp at hy
  ·rename_i k hu
   obtain ⟨n,rfl,e,hw⟩:=DataW.trod_int hu hx
   subst e
   refine ⟨[.val (.int k n)],rfl,fun i y hy=>?_,⟨1,by simp only [Shape,hu]; exact ⟨n,hw,rfl⟩⟩,by simp [bulkL,bulkC,bulkD]⟩
   cases i with
   | zero=>simp at hy; subst hy; exact .val rfl
   | succ i=>simp at hy
  ·rename_i hu
   obtain ⟨s,rfl,hxe,hw⟩:=DataW.trod_string hu hx
   subst hxe
   refine ⟨[.str s.data.toList],rfl,fun i y hy=>?_,⟨1,by simp only [Shape,hu]; exact ⟨_,hwt _ (by simp [DataW.weights]),rfl⟩⟩,by simp [bulkL,bulkC,bulkD]⟩
   cases i with
   | zero=>simp at hy; subst hy; exact .str rfl
   | succ i=>simp at hy
  ·rename_i e hu
   simp only [Bool.and_eq_true,List.contains_iff_mem] at h
   rcases Deep.open_slice hu hx with ⟨rfl,e1⟩ | ⟨a,len,cap,m,n,D,Pl,rfl,hb,hlc,hcm,hm,hxe,hel⟩
   ·subst e1
    refine ⟨[.ro false (P.cellsOf e) []],rfl,fun i y hy=>?_,⟨1,by simp only [Shape,hu]; exact ⟨[],rfl,by simp,by simp⟩⟩,by simp [bulkL,bulkC,bulkE,bulkD]⟩
    cases i with
    | zero =>
     simp at hy; subst hy
     exact .ro (A:=none) (xs:=[]) (c:=0) (fun _ _=>undef) (fun q=>by cases q) (Nat.le_refl _) (fun _=>rfl) (fun i e h=>by simp at h) (fun ad h=>by cases h) (fun i e h=>by simp at h) (fun i e h=>by simp at h)
    | succ i=>simp at hy
   ·have hlm:len≤m:=by rw [hm]; split <;> omega
    subst hxe
    have hbk' : bulkDs ((List.range len).map D)+1≤N+1:=by simpa only [bulkD] using hbk
    have hwe:∀ k,k ∈ DataW.weightsAll P e ((List.range len).map D) ++ DataW.weightsAll P e ((List.range (m - len)).map fun j=>D (len+j))→k≤reachBytes:=fun k hk=>hwt k (by simp only [DataW.weights,hu]; exact List.mem_cons_of_mem _ hk)
    have hlb:len≤reachBytes:=by
     have h1:=hwt _ (by simp only [DataW.weights,hu]; exact List.mem_cons_self)
     simp only [List.length_map,List.length_range] at h1
     have h2:1≤P.bytesOf e:=by simpa using h.2.1
     have h3:len * 1≤(len+(m - len)) * P.bytesOf e:=Nat.mul_le_mul (by omega) h2
     omega
    have each:∀ i,i<len→∃ p:List Cel×List Value,p.1.length=P.cellsOf e∧(∀ j,j<P.cellsOf e→K.w.cell? (a.add (i * P.cellsOf e+j))=some (p.2.getD j undef)) ∧
      (∀(j:Nat) (y:Cel),p.1[j]? = some y→RelC K y (p.2.getD j undef))∧(∃ D,Shape P D e p.1)∧bulkL p.1≤bulkD (D i):=by
     intro i hi
     obtain ⟨cs',h1,h2⟩:=hel i (by omega)
     obtain ⟨_,hl',hc'⟩:=World.cells?_some h1
     have hmem:D i ∈ (List.range len).map D:=by rw [List.mem_map]; exact ⟨i,List.mem_range.2 hi,rfl⟩
     obtain ⟨l,g1,g2,g3,g4⟩:=ih e h.2.2 n cs' _ h2 (by have:=bulkD_mem hmem; show bulkD (D i)≤N; omega) (fun k hk=>hwe _ (by simp only [List.mem_append]; exact .inl (weights_all (d:=D i) hmem hk)))
     refine ⟨(l,cs'),by rw [g1,hl'],fun j hj=>?_,g2,g3,g4⟩
     have:=hc' j hj
     rw [Deep.add_add] at this
     rw [this,List.getD,List.getElem?_eq_getElem (by omega)]
     rfl
    obtain ⟨F,hF⟩:=Deep.choose_lt (α:=List Cel×List Value) each
    obtain ⟨DD,hDD⟩:=bound_all (Q:=fun i d=>Shape P d e (F i).1) (fun i d k=>Shape_succ k) len fun i hi=>(hF i hi).2.2.2.1
    have hxs:∀(i:Nat) (q:List Cel),((List.range len).map fun i=>(F i).1)[i]? = some q→i<len∧q=(F i).1:=by
     intro i q hq
     rw [List.getElem?_map] at hq
     obtain ⟨k,hk,rfl⟩:=Option.map_eq_some_iff.1 hq
     obtain ⟨hlt,rfl⟩:=List.getElem?_eq_some_iff.1 hk
     simp only [List.length_range] at hlt
     exact ⟨hlt,by simp⟩
    have hlenx:((List.range len).map fun i=>(F i).1).length=len:=by simp
    have hbb:=bulk_rows (fun i=>(F i).1) D (List.range len) fun i hi=>(hF i (List.mem_range.1 hi)).2.2.2.2
    refine ⟨[.ro false (P.cellsOf e) ((List.range len).map fun i=>(F i).1)],rfl,fun i y hy=>?_,⟨DD+1,?_⟩,by simp only [bulkL,bulkC,bulkD]; omega⟩
    ·cases i with
     | zero =>
      simp only [List.getElem?_cons_zero,Option.some.injEq] at hy
      subst hy
      have hr:=RelC.ro (K:=K) (nl:=false) (sz:=P.cellsOf e) (c:=cap) (xs:=(List.range len).map fun i=>(F i).1) (A:=some a) (fun i j=>(F i).2.getD j undef) (fun q=>by cases q) (by rw [hlenx]; exact hlc) (fun h=>by cases h)
       (fun i q hq=>by obtain ⟨h1,rfl⟩:=hxs i q hq; exact (hF i h1).1)
       (fun ad had hne hsz=>by
        cases had
        have hl0:0<len:=by
         rcases Nat.eq_zero_or_pos len with h0 | h0
         ·exact absurd (by rw [h0]; rfl) hne
         ·exact h0
        have hc:=(hF 0 hl0).2.1 0 (by omega)
        refine hS _ ?_
        rcases Nat.lt_or_ge a.block K.w.heap.size with h | h
        ·exact h
        ·unfold World.cell? at hc
         rw [add_block] at hc
         rw [Array.getElem?_eq_none h] at hc
         cases hc)
       (fun i q hq j y hy=>by
        obtain ⟨h1,rfl⟩:=hxs i q hq
        exact (hF i h1).2.1 j (by rw [← (hF i h1).1]; exact (List.getElem?_eq_some_iff.1 hy).1))
       (fun i q hq j y hy=>by
        obtain ⟨h1,rfl⟩:=hxs i q hq
        rw [hbare]; exact (hF i h1).2.2.1 j y hy)
      rw [hlenx] at hr
      exact hr
     | succ i=>simp at hy
    ·simp only [Shape,hu]
     refine ⟨_,rfl,by rw [hlenx]; exact hlb,fun q hq=>?_⟩
     obtain ⟨i,hi,rfl⟩:=List.mem_map.1 hq
     exact hDD i (List.mem_range.1 hi)
  ·rename_i fs hu
   simp only [Bool.and_eq_true] at h
   obtain ⟨xs,n,_,hxe,hl,hxl,hf⟩:=DataW.trod_struct hu hx
   subst hxe
   have hbk' : bulkDs (xs.map (·.1))+1≤N+1:=by simpa only [bulkD] using hbk
   obtain ⟨l,h1,h2,⟨DD,h3⟩,h4⟩:=cat_openN (K:=K) (enc:=enc) (base:=base) (spare:=spare) (held:=held) (N:=N) hl (fs.toList.map fun f=>(f.offset,f.type)) (xs.map (·.1)) 0 h.1 (by simp [hxl]) (fun p hp=>by
     obtain ⟨f,hfm,rfl⟩:=List.mem_map.1 hp
     exact ih f.type (List.contains_iff_mem.1 (List.all_eq_true.1 h.2 f hfm))) (by omega) (fun i o t x hr hx' => by
     rw [List.getElem?_map] at hr hx'
     obtain ⟨f,hf',hfe⟩:=Option.map_eq_some_iff.1 hr
     cases hfe
     obtain ⟨z,hz,rfl⟩:=Option.map_eq_some_iff.1 hx'
     refine ⟨n,z.2,(hf i f (by rw [← Array.getElem?_toList]; exact hf')).trans hz,fun k hk=>hwt k ?_⟩
     simp only [DataW.weights,hu]
     exact DataW.weights_mem_each (j:=i) (t:=f.type) (d:=z.1) (by rw [List.getElem?_map,hf']; rfl) (by rw [List.getElem?_map,hz]; rfl) k hk)
   refine ⟨l,by omega,fun i y hy=>by have:=h2 i y hy; rwa [Nat.zero_add] at this,⟨DD+1,?_⟩,by simp only [bulkD]; omega⟩
   simp only [Shape,hu]
   rw [List.map_map] at h3
   exact h3
  ·rename_i n e hu
   simp only [Bool.and_eq_true,List.contains_iff_mem] at h
   obtain ⟨xs,m,_,hxe,hcl,hxl,hf⟩:=DataW.trod_array hu hx
   subst hxe
   have hbk' : bulkDs (xs.map (·.1))+1≤N+1:=by simpa only [bulkD] using hbk
   obtain ⟨l,h1,h2,⟨DD,h3⟩,h4⟩:=cat_openN (K:=K) (enc:=enc) (base:=base) (spare:=spare) (held:=held) (N:=N) hcl ((List.range n).map fun i=>(i * P.cellsOf e,e)) (xs.map (·.1)) 0 h.1 (by simp [hxl]) (fun p hp=>by
     obtain ⟨i,_,rfl⟩:=List.mem_map.1 hp
     exact ih e h.2) (by omega) (fun i o t x hr hx' => by
     rw [List.getElem?_map] at hr hx'
     obtain ⟨k,hk,hfe⟩:=Option.map_eq_some_iff.1 hr
     cases hfe
     obtain ⟨hlt,rfl⟩:=List.getElem?_eq_some_iff.1 hk
     simp only [List.length_range] at hlt
     obtain ⟨z,hz,rfl⟩:=Option.map_eq_some_iff.1 hx'
     refine ⟨m,z.2,?_,fun k hk=>hwt k ?_⟩
     ·rw [List.getElem_range]
      exact (hf i hlt).trans hz
     ·simp only [DataW.weights,hu]
      exact weights_all (d:=z.1) (by rw [List.mem_map]; exact ⟨z,List.mem_of_getElem? hz,rfl⟩) hk)
   refine ⟨l,by omega,fun i y hy=>by have:=h2 i y hy; rwa [Nat.zero_add] at this,⟨DD+1,?_⟩,by simp only [bulkD]; omega⟩
   simp only [Shape,hu]
   have e1:((List.range n).map fun i=>(i * P.cellsOf e,e)).map (·.2)=List.replicate n e:=by
    rw [List.map_map]
    apply List.ext_getElem <;> simp
   rw [e1] at h3
   exact h3
  ·cases h
end
def ShapeW (P:Program) (t:TypeId) (v:AV):Prop:=match P.underlying t with
 | some (.struct _) | some (.array _ _)=>∃ l,v = .agg l∧∃ D,Shape P D t l
 | _=>∃ c,v = .c c∧∃ D,Shape P D t [c]
section
variable {P : Program} {t : TypeId} {v : AV}
theorem ShapeW_struct {fs:Array Field}(hu:P.underlying t=some (.struct fs)):ShapeW P t v=∃ l,v = .agg l∧∃ D,Shape P D t l:=by rw [ShapeW,hu]
end
section
variable {H : Type} {enc : TypeId × Value → H} {P : Program} {W : World}
theorem open_argR {b0:Nat}{G:List TypeId}(hG:G.all (oneT P G)=true) {t:TypeId}{v:Value}{d:DataW H}{p:List MemPlace}(hp:t ∈ G) (hval:Value.okWide P W .any b0 t v) (h:DataW.Trod enc P W 0 (fun _=>true) true t v d p) (hw:∀ n ∈ d.weights P t,n≤reachBytes) :
  ∃ x:AV,RelV (entry W) x v∧ShapeW P t x∧bulkV x≤bulkD d:=by
 obtain ⟨fuel,hf⟩:=h
 obtain ⟨l,h1,h2,⟨D,h3⟩,h4⟩:=opensN (K:=entry W) rfl entry_S hG (bulkD d) t hp fuel _ _ hf (Nat.le_refl _) hw
 unfold ShapeW
 have aggc:∀ cs,v = .agg cs→∃ x:AV,RelV (entry W) x v∧(∃ l,x = .agg l∧∃ D,Shape P D t l)∧bulkV x≤bulkD d:=by
  rintro cs rfl
  refine ⟨.agg l,.agg (by rw [h1]; rfl) (fun i x hi=>?_),⟨l,rfl,D,h3⟩,h4⟩
  have:=h2 i x hi
  rwa [show (Value.agg cs).cells.toList.getD i undef=cs.getD i undef by simp [Value.cells,List.getD]] at this
 have onec:v.cells = #[v]→∃ x:AV,RelV (entry W) x v∧(∃ c,x = .c c∧∃ D,Shape P D t [c])∧bulkV x≤bulkD d:=by
  intro hc
  rw [hc] at h1 h2
  match l,h1 with
  | [c],_=>exact ⟨.c c,.c (h2 0 c rfl),⟨c,rfl,D,h3⟩,by simpa [bulkL,bulkV] using h4⟩
 have hp' := List.all_eq_true.1 hG t hp
 unfold oneT at hp'
 split at hp'
 ·rename_i hu
  simp only [hu]
  obtain ⟨b,rfl⟩:=WideShapes.okWide_bool hu hval
  exact onec rfl
 ·rename_i k hu
  simp only [hu]
  obtain ⟨b,rfl⟩:=WideShapes.okWide_int hu hval
  exact onec rfl
 ·rename_i hu
  simp only [hu]
  obtain ⟨b,rfl⟩:=WideShapes.okWide_string hu hval
  exact onec rfl
 ·rename_i e hu
  simp only [hu]
  obtain ⟨a,len,cap,rfl⟩:=WideShapes.okWide_slice hu hval
  exact onec rfl
 ·rename_i fs hu
  simp only [hu]
  obtain ⟨cs,rfl,_⟩:=WideShapes.okWide_struct hu hval
  exact aggc cs rfl
 ·rename_i n e hu
  simp only [hu]
  simp only [Value.okWide,hu] at hval
  obtain ⟨cs,rfl,_⟩:=hval
  exact aggc cs rfl
 ·cases hp'
def plainRs (P:Program) (G:List TypeId) (ts:List TypeId):Bool:=G.all (oneT P G)&&ts.all fun t=>G.contains t&&P.readableRec t&&decide (t<P.types.size)
theorem open_argsR {b0:Nat}{G:List TypeId}(hG:G.all (oneT P G)=true) (hl:laidOutB P=true):∀{ts:List TypeId}{vs:List Value}{ds:List (DataW H)}{p:List MemPlace},(ts.all fun t=>G.contains t&&P.readableRec t&&decide (t<P.types.size))=true→DataW.TrodAll enc P W 0 (fun _=>true) true ts vs ds p→(∀ n ∈ DataW.weightsEach P ts ds,n≤reachBytes) →
  (∀(j:Nat) t v,ts[j]? = some t→vs[j]? = some v→Value.okWide P W .any b0 t v) →
  (∃ xs:List AV,xs.length=vs.length∧ts.length=vs.length∧(∀(i:Nat) (x:AV),xs[i]? = some x→RelV (entry W) x (vs.getD i undef))∧(∀(i:Nat) t (x:AV),ts[i]? = some t→xs[i]? = some x→ShapeW P t x)∧bulkVs xs≤bulkDs ds) ∧
  ∀ W',RowKit.Below W.heap.size W W' → DataW.TrodAll enc P W' 0 (fun b=>decide (b<W.heap.size)) true ts vs ds p
 | [],[],[],p,_,h,_,_=>⟨⟨[],rfl,rfl,fun i x h=>by simp at h,fun i t x h=>by simp at h,by simp [bulkVs]⟩,fun W' _=>h⟩
 | t::ts,v::vs,d::ds,p,hp,h,hw,hv=>by
  have hlt:=h.lt
  obtain ⟨p1,q1,h1,h2,rfl⟩:=h
  simp only [List.all_cons,Bool.and_eq_true,decide_eq_true_eq,List.contains_iff_mem] at hp
  obtain ⟨x,hx1,hx2,hx3⟩:=open_argR hG hp.1.1.1 (hv 0 t v rfl rfl) h1 (fun n hn=>hw n (by simp only [DataW.weightsEach,List.mem_append]; exact .inl hn))
  obtain ⟨⟨xs,e1,e0,e2,e3,e5⟩,e4⟩:=open_argsR hG hl (ts:=ts) (by simpa only [Bool.and_eq_true,decide_eq_true_eq,List.contains_iff_mem,List.all_eq_true] using hp.2) h2 (fun n hn=>hw n (by simp only [DataW.weightsEach,List.mem_append]; exact .inr hn)) (fun j t v hj hj' => hv (j+1) t v (by simpa using hj) (by simpa using hj'))
  refine ⟨⟨x::xs,by simp [e1],by simp [e0],fun i y hy=>?_,fun i t' y ht hy=>?_,by simp only [bulkVs,bulkDs]; omega⟩,fun W' hb=>⟨p1,q1,RowKit.Below.trod hl hp.1.1.2 hp.1.2 h1 hb (fun y hy=>hlt y (List.mem_append_left _ hy)),e4 W' hb,rfl⟩⟩
  ·cases i with
   | zero=>simp at hy; subst hy; exact hx1
   | succ i=>exact e2 i y (by simpa using hy)
  ·cases i with
   | zero=>simp at ht hy; subst ht; subst hy; exact hx2
   | succ i=>exact e3 i t' y (by simpa using ht) (by simpa using hy)
 | [],[],_::_,_,_,h,_,_=>h.elim
 | [],_::_,_,_,_,h,_,_=>h.elim
 | _::_,[],_,_,_,h,_,_=>h.elim
 | _::_,_::_,[],_,_,h,_,_=>h.elim
theorem law_callsR {Γ:Glob}{b0:Nat}{G:List TypeId}(hG:∀ g,GlobOK (entry W) g (Γ g)) (hl:laidOutB P=true) {f:FuncId}{ts:List TypeId}{args:Array Value}{ds:List (DataW H)}{p:List MemPlace}{r:Bool}(hp:plainRs P G ts=true) (h:DataW.TrodAll enc P W 0 (fun _=>true) true ts args.toList ds p) (hw:∀ n ∈ DataW.weightsEach P ts ds,n≤reachBytes)
  (hv:∀(j:Nat) t v,ts[j]? = some t→args[j]? = some v→Value.okWide P W .any b0 t v)
  (hf:∀ xs:List AV,xs.length=ts.length→(∀(i:Nat) t (x:AV),ts[i]? = some t→xs[i]? = some x→ShapeW P t x)→bulkVs xs≤bulkDs ds→CPure P Γ f xs (.c (.val (.bool r)))) :
  Calls P f args W fun e W' => e = .returned (.bool r)∧RowKit.Below W.heap.size W W' ∧ DataW.TrodAll enc P W' 0 (fun b=>decide (b<W.heap.size)) true ts args.toList ds p:=by
 unfold plainRs at hp
 rw [Bool.and_eq_true] at hp
 obtain ⟨⟨xs,e1,e0,e2,e3,e5⟩,e4⟩:=open_argsR hp.1 hl hp.2 h hw (fun j t v hj hj' => hv j t v hj (by simpa using hj'))
 refine Calls.mono (hf xs (by omega) e3 e5 (fun _=>False) W (fun _=>0) (fun _=>0) args (entry_ok hG) (by rw [e1]; simp) (fun i x hi=>?_)) fun e W' he=>?_
 ·have:=e2 i x hi
  rwa [show args.toList.getD i undef=args.getD i undef by simp [List.getD]] at this
 ·obtain ⟨cv,r',h',n',μ',κ',rfl,⟨rfl,rfl,rfl⟩,H',F',hrel⟩:=he
  have:=relC_bool (relV_c hrel)
  subst this
  exact ⟨rfl,from_below F',e4 W' (from_below F')⟩
end
attribute [irreducible] ShapeW
end Go.Proofs.YtnfgjdbajefoiaaGreatDoorBv
