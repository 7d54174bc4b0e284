/- The law WeightPaths, over plain values, in parts. No program is in sight. -/
import Derived.Test.YtnfgjdbajefoiaaGreatDoorShWeightPaths
import Derived.Test.YtnfgjdbajefoiaaGreatDoorBv23
import Derived.Test.YtnfgjdbajefoiaaGreatDoorBv30
import Derived.WalkKit
/- Loops over a list, said once: an invariant, rounds that go on, rounds that end it all. No program is in sight. -/
namespace Go.Proofs.YtnfgjdbajefoiaaGreatDoorBv
open Go
set_option linter.unusedSimpArgs false
set_option linter.unusedVariables false
theorem rounds {σ β:Type}(F:Nat→σ→Int→Option β) (K:σ→Option β) (n:Nat) (I:Nat→σ→Prop) (E:Option β→Prop)
  (stop:∀ m s,I n s→F (m+1) s (n:Int)=K s)
  (step:∀ s (i:Nat),i<n→I i s→(∃ s',I (i+1) s' ∧ ∀ m,F (m+1) s (i:Int)=F m s' ((i+1:Nat):Int))∨∃ v,E v∧∀ m,F (m+1) s (i:Int)=v) :
  ∀(c i:Nat) s,i+c=n→I i s→(∃ s',I n s' ∧ ∀ m,F (m+c+1) s (i:Int)=K s')∨∃ v,E v∧∀ m,F (m+c+1) s (i:Int)=v
 | 0,i,s,h,hi=>by
  obtain rfl:i=n:=by omega
  exact .inl ⟨s,hi,fun m=>stop m s hi⟩
 | c+1,i,s,h,hi=>by
  rcases step s i (by omega) hi with ⟨s',h1,h2⟩ | ⟨v,h1,h2⟩
  ·rcases rounds F K n I E stop step c (i+1) s' (by omega) h1 with ⟨t,a,b⟩ | ⟨v,a,b⟩
   ·exact .inl ⟨t,a,fun m=>by rw [show m+(c+1)+1=(m+c+1)+1 by omega,h2]; exact b m⟩
   ·exact .inr ⟨v,a,fun m=>by rw [show m+(c+1)+1=(m+c+1)+1 by omega,h2]; exact b m⟩
  ·exact .inr ⟨v,h1,fun m=>h2 (m+(c+1))⟩
theorem rounds_lim {σ β:Type}(F:Nat→σ→Int→Option β) (K:σ→Option β) (n:Nat) (I:Nat→σ→Prop) (E:Option β→Prop) (s:σ) (h0:I 0 s)
  (stop:∀ m s,I n s→F (m+1) s (n:Int)=K s)
  (step:∀ s (i:Nat),i<n→I i s→(∃ s',I (i+1) s' ∧ ∀ m,F (m+1) s (i:Int)=F m s' ((i+1:Nat):Int))∨∃ v,E v∧∀ m,F (m+1) s (i:Int)=v) (hn:n≤4611686018427387903:=by omega) :
  (∃ s',I n s' ∧ limF (fun k=>F k s 0)=K s')∨∃ v,E v∧limF (fun k=>F k s 0)=v:=by
 rcases rounds F K n I E stop step n 0 s (by omega) h0 with ⟨t,a,b⟩ | ⟨v,a,b⟩
 ·exact .inl ⟨t,a,limF_add (n+1) fun m=>b m⟩
 ·exact .inr ⟨v,a,limF_add (n+1) fun m=>b m⟩
theorem rounds_all {σ β:Type}(F:Nat→σ→Int→Option β) (K:σ→Option β) (n:Nat) (I:Nat→σ→Prop) (s:σ) (h0:I 0 s)
  (stop:∀ m s,I n s→F (m+1) s (n:Int)=K s)
  (step:∀ s (i:Nat),i<n→I i s→∃ s',I (i+1) s' ∧ ∀ m,F (m+1) s (i:Int)=F m s' ((i+1:Nat):Int)) (hn:n≤4611686018427387903:=by omega) :
  ∃ s',I n s' ∧ limF (fun k=>F k s 0)=K s' := by
 rcases rounds_lim F K n I (fun _=>False) s h0 stop (fun s i a b=>.inl (step s i a b)) with h | ⟨_,h,_⟩
 ·exact h
 ·exact h.elim
theorem wi_next {i n:Nat}(h:i<n) (hn:n≤9223372036854775807):wi ((i:Int)+1)=((i+1:Nat):Int):=by
 rw [wi_id (by omega) (by omega)]; omega
theorem lt_pos {i n:Nat}(h:i<n):decide ((i:Int)<(n:Int))=true:=by simp only [decide_eq_true_eq]; omega
theorem lt_neg (n:Nat):¬ decide ((n:Int)<(n:Int))=true:=by simp
theorem take_succ_get {α:Type}{l:List α}{i:Nat}(h:i<l.length):l.take (i+1)=l.take i ++ [l[i]]:=by
 rw [List.take_add_one,List.getElem?_eq_getElem h]; rfl
end Go.Proofs.YtnfgjdbajefoiaaGreatDoorBv
/- Numbers at the beginning of a text: the program's and the document's, as one plain function. No program is in sight. -/
namespace Go.Proofs.YtnfgjdbajefoiaaGreatDoorBv
open Go
set_option linter.unusedSimpArgs false
set_option linter.unusedVariables false
def isD (c:UInt8):Bool:=decide (48≤c.toNat)&&decide (c.toNat≤57)
def addD (n:Nat) (c:UInt8):Nat:=min (10 * n+(c.toNat - 48)) 1000000000
def fromN (s:List UInt8):Nat:=match s with
 | []=>0
 | c::_=>if c=43∨c=45 then 1 else 0
def fracN (l:List UInt8):List UInt8:=match l with
 | []=>[]
 | c::r=>if c=46 then r.takeWhile isD else []
def thousN (n:Nat) (f:List UInt8):Nat:=addD (addD (addD n (f.getD 0 48)) (f.getD 1 48)) (f.getD 2 48)
def numS (s:List UInt8):Int×Int :=
 let w:=(s.drop (fromN s)).takeWhile isD
 let f:=fracN ((s.drop (fromN s)).drop w.length)
 if w.length+f.length=0 then (0,0)
 else
  let n:=thousN (w.foldl addD 0) f
  (if s.head? = some 45 then -(n:Int) else n,((fromN s+w.length+if f.length=0 then 0 else 1+f.length:Nat):Int))
theorem tens_isD (c:UInt8):([48,49,50,51,52,53,54,55,56,57]:List UInt8).contains c=isD c:=by
 have:=u8_all (p:=fun c=>([48,49,50,51,52,53,54,55,56,57]:List UInt8).contains c == isD c) (by decide +kernel) c
 simpa using this
theorem digits_eq {s:List UInt8}(hs:s.length≤140737488355328):Z3a s=some ((s.takeWhile isD).length:Int):=by
 have h1:Z33 s [48,49,50,51,52,53,54,55,56,57]=some (s.dropWhile isD):=by
  show trimLeft? _ _=_
  unfold trimLeft?
  rw [if_pos (by decide)]
  unfold Lib.trimLeftS
  congr 2
  funext c
  exact tens_isD c
 unfold Z3a
 have:=dropWhile_take isD s
 rw [h1,Option.bind_some,wi_id (by omega) (by omega)]
 congr 1
 omega
theorem fn1_eq {c:UInt8}{n:Nat}(hc:isD c=true) (hn:n≤1000000000):Z2i (c.toNat:Int) (n:Int)=some ((addD n c:Nat):Int):=by
 simp only [isD,Bool.and_eq_true,decide_eq_true_eq] at hc
 unfold Z2i addD
 rw [wr_u8,wr_i64,wi_id (n:=10 * (n:Int)) (by omega) (by omega),wi_id (n:=((c.toNat:Int) - 48) % 256) (by omega) (by omega),wi_id (by omega) (by omega)]
 unfold mn
 congr 1
 split <;> omega
theorem addD_le (n:Nat) (c:UInt8):addD n c≤1000000000:=Nat.min_le_right _ _
theorem num_l0 (r s:List UInt8) (fr r1 be:Int) (K:Int→Option (Int×Int)) (hl:r.length≤140737488355328) (hd:∀ c ∈ r,isD c=true):∀(d i n:Nat),i+d=r.length→n≤1000000000→∀ m,
  Z1d r s fr r1 be K (m+d+1) (n:Int) (i:Int)=K (((r.drop i).foldl addD n:Nat):Int)
 | 0,i,n,hi,hn,m=>by
  rw [Z1d,if_neg (by simp only [decide_eq_true_eq,ints_length]; omega),List.drop_eq_nil_of_le (by omega)]
  rfl
 | d+1,i,n,hi,hn,m=>by
  have h:i<r.length:=by omega
  rw [Z1d,if_pos (by simp only [decide_eq_true_eq,ints_length]; omega),at_nat,ints_get,List.getElem?_eq_getElem h,Option.map_some,Option.bind_some,fn1_eq (hd _ (List.getElem_mem h)) hn,Option.bind_some,
   wi_id (by omega) (by omega),show (i:Int)+1=((i+1:Nat):Int) by omega,show m+(d+1)=m+d+1 by omega,num_l0 r s fr r1 be K hl hd d (i+1) _ (by omega) (addD_le _ _) m]
  rw [List.drop_eq_getElem_cons h,List.foldl_cons]
theorem foldD_le (l:List UInt8):∀ n,n≤1000000000→l.foldl addD n≤1000000000:=by
 induction l with
 | nil=>intro n h; exact h
 | cons c r ih=>intro n _; exact ih _ (addD_le _ _)
theorem isD48:isD 48=true:=by decide
theorem frac_step {f:List UInt8}{i n:Nat}(s:List UInt8) (e:Int) (K:Int→Option (Int×Int)) (k:Nat) (hf:∀ c ∈ f,isD c=true) (hn:n≤1000000000) (hi:i<3) :
  Zf f s e K (k+1) (n:Int) (i:Int)=Zf f s e K k ((addD n (f.getD i 48):Nat):Int) ((i+1:Nat):Int):=by
 rw [Zf,if_pos (by simp only [decide_eq_true_eq]; omega)]
 by_cases h:i<f.length
 ·rw [if_pos (by simp only [decide_eq_true_eq]; omega),at_some h,Option.bind_some,fn1_eq (hf _ (List.getElem_mem h)) hn,Option.bind_some]
  unfold Z3b
  rw [wi_id (by omega) (by omega),List.getD_eq_getElem?_getD,List.getElem?_eq_getElem h]
  rfl
 ·rw [if_neg (by simp only [decide_eq_true_eq]; omega),show (48:Int)=((48:UInt8).toNat:Int) from rfl,fn1_eq isD48 hn,Option.bind_some]
  unfold Z3b
  rw [wi_id (by omega) (by omega),List.getD_eq_getElem?_getD,List.getElem?_eq_none (by omega)]
  rfl
theorem num_l1 {f:List UInt8}{n:Nat}(s:List UInt8) (e:Int) (K:Int→Option (Int×Int)) (hf:∀ c ∈ f,isD c=true) (hn:n≤1000000000):limF (fun kk=>Zf f s e K kk (n:Int) 0)=K ((thousN n f:Nat):Int):=by
 refine limF_add 4 fun m=>?_
 show Zf f s e K (m+3+1) (n:Int) ((0:Nat):Int)=_
 rw [frac_step s e K _ hf hn (by omega)]
 show Zf f s e K (m+2+1) _ _=_
 rw [frac_step s e K _ hf (addD_le _ _) (by omega)]
 show Zf f s e K (m+1+1) _ _=_
 rw [frac_step s e K _ hf (addD_le _ _) (by omega),Zf,if_neg (by decide)]
 rfl
theorem fold_take (l:List UInt8):∀ c ∈ l.takeWhile isD,isD c=true:=by
 exact List.all_eq_true.1 List.all_takeWhile
theorem num_end {s:List UInt8}{e:Int}(h:s≠[]) {n:Nat}{f:List UInt8}(hf:∀ c ∈ f,isD c=true) (hn:n≤1000000000):Z3c s (n:Int) e f=some (if s.head? = some 45 then -((thousN n f:Nat):Int) else ((thousN n f:Nat):Int),e):=by
 unfold Z3c
 rw [num_l1 s e _ hf hn]
 match s,h with
 | c::r,_ =>
  have h0:at? (c::r) 0=some c:=rfl
  have hle:thousN n f≤1000000000:=addD_le _ _
  rw [h0,Option.bind_some]
  unfold Z48
  by_cases hc:c=45
  ·subst hc
   rw [if_pos (show decide (((45:UInt8).toNat:Int)=45)=true by decide),if_pos (show (45::r).head? = some 45 from rfl),wi_id (by omega) (by omega)]
   congr 2
   omega
  ·rw [if_neg (by simp only [decide_eq_true_eq]; intro e; exact hc (UInt8.toNat_inj.1 (by simpa using (by omega:c.toNat=45)))),if_neg (by simpa using hc)]
theorem hasPrefix1 (l:List UInt8) (c:UInt8):Z24 l [c]=some (decide (l.head? = some c)):=by
 unfold Z24 Z35 Z34
 cases l with
 | nil=>simp
 | cons d r =>
  rw [if_pos (by simp; omega)]
  have:sub? (d::r) 0 (([c]:List UInt8).length:Int)=some [d]:=by
   have:=sub_take (l:=d::r) (b:=1) (by simp)
   simpa using this
  rw [this,Option.bind_some,Option.bind_some]
  simp
theorem num_j4 {s:List UInt8}(hs:s.length≤140737488355328) {a:Nat}(ha:a≤s.length) (w f:List UInt8) (hw:w=(s.drop a).takeWhile isD) (hf:f=fracN ((s.drop a).drop w.length)) :
  Z2j (w.length:Int) s (a:Int) (f.length:Int)=some (if w.length+f.length=0 then (0,0) else
   (if s.head? = some 45 then -((thousN (w.foldl addD 0) f:Nat):Int) else ((thousN (w.foldl addD 0) f:Nat):Int),((a+w.length+if f.length=0 then 0 else 1+f.length:Nat):Int))):=by
 have hwl:w.length≤s.length - a:=by
  have:=dropWhile_take isD (s.drop a)
  rw [← hw,List.length_drop] at this
  omega
 have hfl:f.length≠0→1+f.length≤s.length - a - w.length∧(((s.drop a).drop w.length).drop 1).take f.length=f:=by
  intro h0
  unfold fracN at hf
  split at hf
  ·subst hf; exact absurd rfl h0
  ·rename_i c r hr
   split at hf
   ·have h1:=congrArg List.length hr
    simp only [List.length_drop,List.length_cons] at h1
    have h2:=dropWhile_take isD r
    refine ⟨by rw [hf]; omega,?_⟩
    rw [hr,hf]
    exact take_takeWhile isD r
   ·subst hf; exact absurd rfl h0
 have hdf:∀ c ∈ f,isD c=true:=by
  intro c hc
  rw [hf] at hc
  unfold fracN at hc
  split at hc
  ·cases hc
  ·split at hc
   ·exact fold_take _ _ hc
   ·cases hc
 have hdw:∀ c ∈ w,isD c=true:=by rw [hw]; exact fold_take _
 unfold Z2j
 have hfl2:f.length≤s.length:=by
  by_cases h:f.length=0
  ·omega
  ·have:=(hfl h).1; omega
 rw [wi_id (n:=(w.length:Int)+f.length) (by omega) (by omega)]
 by_cases h0:w.length+f.length=0
 ·rw [if_pos (by simp only [decide_eq_true_eq]; omega),if_pos h0]
 ·have hne:s≠[]:=by
   rintro rfl
   have h1:w.length=0:=by simpa using hwl
   by_cases h:f.length=0
   ·omega
   ·have:=(hfl h).1; simp at this
  rw [if_neg (by simp only [decide_eq_true_eq]; omega),if_neg h0,wi_id (n:=(a:Int)+w.length) (by omega) (by omega),show (a:Int)+w.length=((a+w.length:Nat):Int) by omega,sub_nat (by omega) (by omega),Option.bind_some]
  have e1:(s.take (a+w.length)).drop a=w:=by
   rw [List.drop_take,show a+w.length - a=w.length by omega]
   have h:=take_takeWhile isD (s.drop a)
   rw [← hw] at h
   exact h
  rw [e1]
  refine (limF_add (w.length+1) fun m=>?_)
  have:=num_l0 w s (a:Int) (w.length:Int) (f.length:Int)
  rw [← Nat.add_assoc]
  refine ((num_l0 w s (a:Int) (w.length:Int) (f.length:Int) _ (by omega) hdw w.length 0 0 (by omega) (by omega) m)).trans ?_
  rw [List.drop_zero]
  have hfd:=foldD_le w 0 (by omega)
  by_cases hf0:f.length=0
  ·rw [if_neg (by simp only [decide_eq_true_eq]; omega),List.eq_nil_of_length_eq_zero hf0,num_end hne (fun c hc=>by cases hc) hfd]
   simp
  ·have h3:=hfl hf0
   rw [if_pos (by simp only [decide_eq_true_eq]; omega),wi_id (n:=((a+w.length:Nat):Int)+1) (by omega) (by omega),wi_id (n:=((a+w.length:Nat):Int)+1+f.length) (by omega) (by omega),wi_id (n:=(1:Int)+f.length) (by omega) (by omega),wi_id (by omega) (by omega),
    show ((a+w.length:Nat):Int)+1=((a+w.length+1:Nat):Int) by omega,show ((a+w.length+1:Nat):Int)+f.length=((a+w.length+1+f.length:Nat):Int) by omega,sub_nat (by omega) (by omega),Option.bind_some]
   have e2:(s.take (a+w.length+1+f.length)).drop (a+w.length+1)=f:=by
    rw [List.drop_take,show a+w.length+1+f.length - (a+w.length+1)=f.length by omega]
    have:=h3.2
    rwa [List.drop_drop,List.drop_drop] at this
   rw [e2,num_end hne hdf hfd,if_neg hf0]
   congr 2
   try omega
theorem Number_eq {s:List UInt8}(hs:s.length≤140737488355328):Z49 s=some (numS s):=by
 have main:∀ a:Nat,a=fromN s→a≤s.length→Z3d s (a:Int)=some (numS s):=by
  intro a hfrom ha
  obtain ⟨w,hw⟩:∃ w,w=(s.drop a).takeWhile isD:=⟨_,rfl⟩
  have hwl:w.length≤s.length - a:=by
   have:=dropWhile_take isD (s.drop a)
   rw [← hw,List.length_drop] at this
   omega
  unfold Z3d
  rw [sub_drop ha,Option.bind_some,digits_eq (by rw [List.length_drop]; omega),Option.bind_some,← hw,wi_id (by omega) (by omega),show (a:Int)+w.length=((a+w.length:Nat):Int) by omega,sub_drop (by omega),Option.bind_some,hasPrefix1,Option.bind_some]
  have e0:s.drop (a+w.length)=(s.drop a).drop w.length:=by rw [List.drop_drop]
  have fin:∀ f,f=fracN ((s.drop a).drop w.length)→Z2j (w.length:Int) s (a:Int) (f.length:Int)=some (numS s):=by
   intro f hf
   rw [num_j4 hs ha w f hw hf]
   unfold numS
   rw [← hfrom,← hw]
   simp only [← hf]
  rw [e0]
  cases hr:(s.drop a).drop w.length with
  | nil =>
   rw [if_neg (by simp)]
   refine fin [] ?_
   rw [hr]; rfl
  | cons c r =>
   by_cases hc:c=46
   ·subst hc
    rw [if_pos (by simp),show (1:Int)=((1:Nat):Int) from rfl,sub_drop (by simp),Option.bind_some,digits_eq (by
     have:=congrArg List.length hr
     simp only [List.length_drop,List.length_cons] at this ⊢
     omega),Option.bind_some]
    refine fin _ ?_
    rw [hr]; rfl
   ·rw [if_neg (by simpa using hc)]
    refine fin [] ?_
    rw [hr]
    show _=if c=46 then _ else _
    rw [if_neg hc]
 unfold Z49 Z3e
 cases s with
 | nil =>
  rw [if_neg (by simp),if_neg (by simp)]
  exact main 0 rfl (by simp)
 | cons c r =>
  have h0:at? (c::r) 0=some c:=rfl
  have hn:∀ k:Nat,k<256→((c.toNat:Int)=(k:Int)↔c=UInt8.ofNat k):=fun k hk=>by
   constructor
   ·intro h; rw [← UInt8.ofNat_toNat (x:=c)]; congr 1; omega
   ·rintro rfl; simp; omega
  have h43:=hn 43 (by omega)
  have h45:=hn 45 (by omega)
  rw [if_pos (by simp),h0,Option.bind_some,Option.bind_some]
  by_cases c1:c=43
  ·rw [if_pos (by simp only [decide_eq_true_eq]; exact h43.2 c1),if_pos rfl]
   exact main 1 (by simp [fromN,c1]) (by simp)
  ·rw [if_neg (by simp only [decide_eq_true_eq]; exact fun h=>c1 (h43.1 h))]
   by_cases c2:c=45
   ·rw [if_pos (by simp only [decide_eq_true_eq]; exact h45.2 c2)]
    exact main 1 (by simp [fromN,c2]) (by simp)
   ·rw [if_neg (by simp only [decide_eq_true_eq]; exact fun h=>c2 (h45.1 h))]
    exact main 0 (by simp [fromN,c1,c2]) (by simp)
end Go.Proofs.YtnfgjdbajefoiaaGreatDoorBv
/- A text's tokens, as the program cuts them, as plain functions. No program is in sight. -/
namespace Go.Proofs.YtnfgjdbajefoiaaGreatDoorBv
open Go
set_option linter.unusedSimpArgs false
set_option linter.unusedVariables false
def isStart (c:UInt8):Bool:=decide (128≤c.toNat)||decide (c=95)||(decide (97≤c.toNat)&&decide (c.toNat≤122))||(decide (65≤c.toNat)&&decide (c.toNat≤90))
def isSign (c:UInt8):Bool:=isStart c||isD c||decide (c=45)
def escS (s:List UInt8):Bool:=match s with
 | c::d::_=>decide (c=92)&&!decide (d=10)
 | _=>false
def beginsS (s:List UInt8):Bool:=match s with
 | []=>false
 | c::d::r=>if c=45 then decide (d=45)||isStart d||escS (d::r) else isStart c||escS (c::d::r)
 | [c]=>isStart c
def addN (l:List UInt8) (k:Nat) (x:List UInt8×Nat):List UInt8×Nat:=(l ++ x.1,k+x.2)
def nameS:List UInt8→List UInt8×Nat
 | []=>([],0)
 | [c]=>if isSign c then ([c],1) else ([],0)
 | c::d::r=>if c=92∧d≠10 then addN [d] 2 (nameS r) else if isSign c then addN [c] 1 (nameS (d::r)) else ([],0)
theorem starts_eq (c:UInt8):Zu (c.toNat:Int)=isStart c:=by
 have:=u8_all (p:=fun c=>Zu (c.toNat:Int) == isStart c) (by decide +kernel) c
 simpa using this
theorem digit_eq (c:UInt8):Z10 (c.toNat:Int)=isD c:=by
 unfold Z10 isD
 congr 1
 ·rw [Bool.eq_iff_iff]; simp; omega
 ·rw [Bool.eq_iff_iff]; simp; omega
theorem byte_is (c:UInt8) (k:Nat) (hk:k<256):decide ((c.toNat:Int)=(k:Int))=decide (c=UInt8.ofNat k):=by
 have:((c.toNat:Int)=(k:Int))↔c=UInt8.ofNat k:=by
  constructor
  ·intro h; rw [← UInt8.ofNat_toNat (x:=c)]; congr 1; omega
  ·rintro rfl; simp; omega
 rw [Bool.eq_iff_iff]
 simpa using this
theorem sign_eq (c:UInt8):Z2g (c.toNat:Int)=isSign c:=by
 unfold Z2g isSign
 rw [starts_eq,digit_eq]
 congr 1
 exact byte_is c 45 (by omega)
theorem escape_eq (s:List UInt8):Z23 s=some (escS s):=by
 unfold Z23 Z37
 match s with
 | []=>rfl
 | [c]=>rfl
 | c::d::r =>
  have h0:at? (c::d::r) 0=some c:=rfl
  have h1:at? (c::d::r) 1=some d:=rfl
  rw [if_pos (by simp; omega),h0,Option.bind_some,h1,Option.bind_some]
  unfold escS
  rw [show decide ((c.toNat:Int)=92)=decide (c=92) from byte_is c 92 (by omega),show decide ((d.toNat:Int)=10)=decide (d=10) from byte_is d 10 (by omega)]
  by_cases hc:c=92 <;> simp [hc]
theorem begins_eq (s:List UInt8):Z2h s=some (beginsS s):=by
 unfold Z2h Z39 Z47
 match s with
 | []=>rfl
 | [c] =>
  have h0:at? [c] 0=some c:=rfl
  rw [if_neg (by simp),h0,Option.bind_some,if_neg (by simp),Option.bind_some,starts_eq,escape_eq,Option.bind_some]
  show (if isStart c=true then some true else some false)=some (isStart c)
  cases isStart c <;> rfl
 | c::d::r =>
  have h0:at? (c::d::r) 0=some c:=rfl
  have h1:at? (c::d::r) 1=some d:=rfl
  have hs:sub? (c::d::r) 1 (((c::d::r).length:Nat):Int)=some (d::r):=sub_drop (a:=1) (by simp)
  rw [if_neg (by simp),h0,Option.bind_some,Option.bind_some,starts_eq,escape_eq,Option.bind_some,h1,Option.bind_some,Option.bind_some,starts_eq,hs,Option.bind_some,escape_eq,Option.bind_some,
   show decide ((c.toNat:Int)=45)=decide (c=45) from byte_is c 45 (by omega),show decide ((d.toNat:Int)=45)=decide (d=45) from byte_is d 45 (by omega)]
  rw [show beginsS (c::d::r)=if c=45 then decide (d=45)||isStart d||escS (d::r) else isStart c||escS (c::d::r) from rfl]
  by_cases hc:c=45
  ·rw [if_pos (by simp [hc]; omega),if_pos hc]
   by_cases hd:d=45
   ·rw [if_pos (by simp [hd])]; simp [hd]
   ·rw [if_neg (by simp [hd])]
    cases isStart d <;> simp [hd]
  ·rw [if_neg (by simp [hc]),if_neg hc]
   cases isStart c <;> simp
theorem wb_eq {l:List UInt8}{c:UInt8}(h:l.length<140737488355328):Z36 l (c.toNat:Int)=some (l ++ [c]):=by
 show bWriteByte? l (c.toNat:Int)=_
 unfold bWriteByte?
 have:=c.toNat_lt
 rw [if_pos ⟨by omega,by omega,by omega⟩]
 simp
theorem name_l0 (s:List UInt8) (hl:s.length<140737488355328):∀(N i:Nat) (b:List UInt8),s.length - i<N→i≤s.length→b.length≤i →
  Z1a s (fun b i=>some (b,i)) N b (i:Int)=some (b ++ (nameS (s.drop i)).1,((i+(nameS (s.drop i)).2:Nat):Int))
 | 0,i,b,hN,hi,hb=>by omega
 | N+1,i,b,hN,hi,hb=>by
  rw [Z1a]
  by_cases h:i<s.length
  ·rw [if_pos (by simp only [decide_eq_true_eq]; omega),sub_drop hi,Option.bind_some,escape_eq,Option.bind_some,at_some h,Option.bind_some,Option.bind_some,sign_eq,wb_eq (by omega),Option.bind_some,wi_id (n:=(i:Int)+1) (by omega) (by omega),wi_id (n:=(i:Int)+2) (by omega) (by omega),
    show (i:Int)+1=((i+1:Nat):Int) by omega,show (i:Int)+2=((i+2:Nat):Int) by omega]
   have e1:=List.drop_eq_getElem_cons h
   rw [e1]
   by_cases h2:i+1<s.length
   ·have e2:=List.drop_eq_getElem_cons h2
    rw [e2,at_some h2,Option.bind_some,wb_eq (by omega),Option.bind_some,name_l0 s hl N (i+2) _ (by omega) (by omega) (by simp; omega),name_l0 s hl N (i+1) _ (by omega) (by omega) (by simp; omega)]
    unfold escS
    rw [show s.drop (i+2)=s.drop (i+1+1) from rfl]
    rw [show nameS (s[i]::s[i+1]::s.drop (i+1+1))=if s[i]=92∧s[i+1]≠10 then addN [s[i+1]] 2 (nameS (s.drop (i+1+1))) else if isSign s[i] then addN [s[i]] 1 (nameS (s[i+1]::s.drop (i+1+1))) else ([],0) by rw [nameS]]
    by_cases hc:s[i]=92∧s[i+1]≠10
    ·rw [if_pos (by simp [hc.1,hc.2]),if_pos hc]
     simp [addN]
     omega
    ·rw [if_neg (by simp only [Bool.and_eq_true,decide_eq_true_eq,Bool.not_eq_true',decide_eq_false_iff_not]; exact hc),if_neg hc,e2]
     cases isSign s[i] with
     | true=>simp [addN]; omega
     | false=>simp
   ·have e2:s.drop (i+1)=[]:=List.drop_eq_nil_of_le (by omega)
    rw [e2,name_l0 s hl N (i+1) _ (by omega) (by omega) (by simp; omega),e2,show escS [s[i]]=false from rfl,if_neg (by simp),show nameS [s[i]]=if isSign s[i] then ([s[i]],1) else ([],0) by rw [nameS],show nameS []=([],0) by rw [nameS]]
    cases isSign s[i] <;> simp
  ·rw [if_neg (by simp only [decide_eq_true_eq]; omega),List.drop_eq_nil_of_le (by omega),show nameS []=([],0) by rw [nameS]]
   simp
theorem name_eq {s:List UInt8}(hl:s.length<140737488355328):Z38 s=some ((nameS s).1,((nameS s).2:Int)):=by
 unfold Z38
 refine limF_of (s.length+1) fun k hk=>?_
 have:=name_l0 s hl k 0 [] (by omega) (by omega) (by simp)
 simpa using this
theorem nameS_le:∀(n:Nat) (s:List UInt8),s.length=n→(nameS s).2≤s.length:=by
 intro n
 induction n using Nat.strongRecOn with
 | _ n ih =>
  intro s hs
  match s with
  | []=>simp [nameS]
  | [c]=>rw [nameS]; split <;> simp
  | c::d::r =>
   rw [nameS]
   simp only [List.length_cons] at hs
   split
   ·have:=ih r.length (by omega) r rfl
    simp [addN]; omega
   ·split
    ·have:=ih (r.length+1) (by omega) (d::r) rfl
     simp [addN] at this ⊢; omega
    ·simp
theorem named_eq {kind:Int}{s:List UInt8}{a:Nat}(hl:s.length<140737488355328) (ha:a≤s.length) :
  Z1b kind s (a:Int)=some ⟨kind,s.take (a+(nameS (s.drop a)).2),(nameS (s.drop a)).1,0⟩:=by
 have h1:=nameS_le _ (s.drop a) rfl
 rw [List.length_drop] at h1
 unfold Z1b
 rw [sub_drop ha,Option.bind_some,name_eq (by rw [List.length_drop]; omega),Option.bind_some,wi_id (by omega) (by omega),show (a:Int)+((nameS (s.drop a)).2:Int)=((a+(nameS (s.drop a)).2:Nat):Int) by omega,sub_take (by omega),Option.bind_some]
theorem set_self {α:Type}{l:List α}{i:Nat}{a:α}(h:l[i]? = some a):l.set i a=l:=by
 obtain ⟨h1,h2⟩:=List.getElem?_eq_some_iff.1 h
 rw [← h2]
 exact List.set_getElem_self h1
def lowB (c:UInt8):UInt8:=if 65≤c.toNat∧c.toNat≤90 then c+32 else c
theorem lower_l0 (s:List UInt8) (hl:s.length<140737488355328):∀(N i:Nat),s.length - i<N→i≤s.length →
  Z1e (fun b=>some (byts b)) N (ints ((s.take i).map lowB ++ s.drop i)) (s.length:Int) (i:Int)=some (s.map lowB)
 | 0,i,hN,hi=>by omega
 | N+1,i,hN,hi=>by
  rw [Z1e]
  by_cases h:i<s.length
  ·have hlen:((s.take i).map lowB).length=i:=by simp; omega
   have hg:((s.take i).map lowB ++ s.drop i)[i]? = some s[i]:=by
    rw [List.getElem?_append_right (by omega),hlen]
    simp [h]
   have ih:=lower_l0 s hl N (i+1) (by omega) (by omega)
   have eset:((s.take i).map lowB ++ s.drop i).set i (lowB s[i])=(s.take (i+1)).map lowB ++ s.drop (i+1):=by
    rw [List.set_append_right _ _ (by omega),hlen,List.drop_eq_getElem_cons h,Nat.sub_self,List.set_cons_zero,List.take_add_one,List.getElem?_eq_getElem h]
    simp only [Option.toList_some,List.map_append,List.map_cons,List.map_nil,List.append_assoc,List.cons_append,List.nil_append]
   rw [if_pos (by simp only [decide_eq_true_eq]; omega),at_nat,ints_get,hg,Option.map_some,Option.bind_some]
   unfold Z4a
   rw [wi_id (by omega) (by omega),show (i:Int)+1=((i+1:Nat):Int) by omega]
   have hint:∀ c:UInt8,(ints ((s.take i).map lowB ++ s.drop i)).set i (c.toNat:Int)=ints (((s.take i).map lowB ++ s.drop i).set i c):=by
    intro c
    unfold ints
    rw [List.map_set]
   by_cases hc:65≤s[i].toNat∧s[i].toNat≤90
   ·have e:lowB s[i]=s[i]+32:=by unfold lowB; rw [if_pos hc]
    have e2:wr .u8 ((s[i].toNat:Int)+32)=((lowB s[i]).toNat:Int):=by
     rw [e,wr_u8,UInt8.toNat_add]
     have:(32:UInt8).toNat=32:=rfl
     omega
    rw [if_pos (by simp; omega),Option.bind_some,e2,show ((i:Int)).toNat=i from rfl,hint,eset]
    exact ih
   ·have e:lowB s[i]=s[i]:=by unfold lowB; rw [if_neg hc]
    rw [if_neg (by simp; omega)]
    have:(s.take i).map lowB ++ s.drop i=(s.take (i+1)).map lowB ++ s.drop (i+1):=by
     rw [← eset,e]
     exact (set_self hg).symm
    rw [this]
    exact ih
  ·have:i=s.length:=by omega
   subst this
   rw [if_neg (by simp)]
   simp [byts_ints]
theorem lower_eq {s:List UInt8}(hl:s.length<140737488355328):Z4b s=some (s.map lowB):=by
 unfold Z4b
 refine limF_of (s.length+1) fun k hk=>?_
 have:=lower_l0 s hl k 0 (by omega) (by omega)
 rw [ints_length]
 simpa using this
def numberS (s:List UInt8) (num:Int) (n:Nat):TSToken:=match s.drop n with
 | []=>⟨7,s.take n,[],num⟩
 | c::r=>if c=37 then ⟨7,s.take (n+1),[37],num⟩ else if beginsS (c::r) then ⟨7,s.take (n+(nameS (c::r)).2),(nameS (c::r)).1.map lowB,num⟩ else ⟨7,s.take n,[],num⟩
theorem nameS_len:∀(n:Nat) (s:List UInt8),s.length=n→(nameS s).1.length≤s.length:=by
 intro n
 induction n using Nat.strongRecOn with
 | _ n ih =>
  intro s hs
  match s with
  | []=>simp [nameS]
  | [c]=>rw [nameS]; split <;> simp
  | c::d::r =>
   rw [nameS]
   simp only [List.length_cons] at hs
   split
   ·have:=ih r.length (by omega) r rfl
    simp [addN]; omega
   ·split
    ·have:=ih (r.length+1) (by omega) (d::r) rfl
     simp [addN] at this ⊢; omega
    ·simp
theorem number_eq {s:List UInt8}{num:Int}{n:Nat}(hl:s.length<140737488355328) (hn:n≤s.length):Z4c s num (n:Int)=some (numberS s num n):=by
 unfold Z4c Z3f numberS
 rw [sub_take hn,Option.bind_some,sub_drop hn,Option.bind_some,hasPrefix1,Option.bind_some,begins_eq,Option.bind_some]
 cases hd:s.drop n with
 | nil=>rfl
 | cons c r =>
  have hlr:=congrArg List.length hd
  simp only [List.length_drop,List.length_cons] at hlr
  simp only [List.head?_cons,Option.some.injEq]
  by_cases hc:c=37
  ·rw [if_pos (by simpa using hc),if_pos hc,wi_id (by omega) (by omega),show (n:Int)+1=((n+1:Nat):Int) by omega,sub_take (by omega),Option.bind_some]
  ·rw [if_neg (by simpa using hc),if_neg hc]
   cases hb:beginsS (c::r) with
   | false=>rfl
   | true =>
    have h1:=nameS_le _ (c::r) rfl
    have h2:=nameS_len _ (c::r) rfl
    simp only [List.length_cons] at h1 h2
    rw [if_pos rfl,if_pos rfl,name_eq (by simp only [List.length_cons]; omega),Option.bind_some,wi_id (by omega) (by omega),show (n:Int)+((nameS (c::r)).2:Int)=((n+(nameS (c::r)).2:Nat):Int) by omega,sub_take (by omega),Option.bind_some,lower_eq (s:=(nameS (c::r)).1) (by omega),Option.bind_some]
def textS (q:UInt8):List UInt8→List UInt8×Nat×Nat
 | []=>([],0,2)
 | [c]=>if c=q then ([],0,0) else if c=10 then ([],0,1) else ([c],1,2)
 | c::d::r=>if c=q then ([],0,0) else if c=10 then ([],0,1) else if c=92 then (let x:=textS q r; (d::x.1,x.2.1+2,x.2.2)) else (let x:=textS q (d::r); (c::x.1,x.2.1+1,x.2.2))
def textT (s:List UInt8) (b:List UInt8) (i:Nat) (x:List UInt8×Nat×Nat):TSToken :=
 if x.2.2=0 then ⟨5,s.take (i+x.2.1+1),b ++ x.1,0⟩ else if x.2.2=1 then ⟨6,s.take (i+x.2.1),[],0⟩ else ⟨6,s,[],0⟩
theorem text_l0 (s:List UInt8) (q:UInt8) (hq:s[0]? = some q) (hl:s.length<140737488355328):∀(N i:Nat) (b:List UInt8),s.length - i<N→i≤s.length→b.length≤i →
  Z19 s (fun _=>some ⟨6,s,[],0⟩) N b (i:Int)=some (textT s b i (textS q (s.drop i)))
 | 0,i,b,hN,hi,hb=>by omega
 | N+1,i,b,hN,hi,hb=>by
  rw [Z19]
  have a0:at? s 0=some q:=by
   have:=at_nat s 0
   rw [hq] at this
   exact this
  by_cases h:i<s.length
  ·rw [if_pos (by simp only [decide_eq_true_eq]; omega),at_some h,Option.bind_some,a0,Option.bind_some]
   have e1:=List.drop_eq_getElem_cons h
   have eq0:decide ((s[i].toNat:Int)=(q.toNat:Int))=decide (s[i]=q):=by
    have:=byte_is s[i] q.toNat q.toNat_lt
    rwa [UInt8.ofNat_toNat] at this
   rw [eq0,show decide ((s[i].toNat:Int)=10)=decide (s[i]=10) from byte_is _ 10 (by omega),show decide ((s[i].toNat:Int)=92)=decide (s[i]=92) from byte_is _ 92 (by omega),wi_id (n:=(i:Int)+1) (by omega) (by omega),show (i:Int)+1=((i+1:Nat):Int) by omega,sub_take (by omega),Option.bind_some,sub_take hi,Option.bind_some,wb_eq (by omega),Option.bind_some]
   unfold Z45
   rw [wi_id (n:=((i+1:Nat):Int)+1) (by omega) (by omega),wi_id (n:=(i:Int)+1) (by omega) (by omega),show ((i+1:Nat):Int)+1=((i+2:Nat):Int) by omega,show (i:Int)+1=((i+1:Nat):Int) by omega]
   rw [text_l0 s q hq hl N (i+1) (b ++ [s[i]]) (by omega) (by omega) (by simp; omega),e1]
   by_cases h2:i+1<s.length
   ·have e2:=List.drop_eq_getElem_cons h2
    rw [e2,textS,at_some h2,Option.bind_some,wb_eq (by omega),Option.bind_some,text_l0 s q hq hl N (i+2) (b ++ [s[i+1]]) (by omega) (by omega) (by simp; omega)]
    by_cases c1:s[i]=q
    ·rw [if_pos (by simpa using c1),if_pos c1]; simp [textT]
    ·rw [if_neg (by simpa using c1),if_neg c1]
     by_cases c2:s[i]=10
     ·rw [if_pos (by simpa using c2),if_pos c2]; simp [textT]
     ·rw [if_neg (by simpa using c2),if_neg c2]
      by_cases c3:s[i]=92
      ·rw [if_pos (by simp [c3]; omega),if_pos c3]
       simp only [textT,List.append_assoc,List.cons_append,List.nil_append]
       rw [show i+2+(textS q (s.drop (i+2))).2.1+1=i+((textS q (s.drop (i+2))).2.1+2)+1 by omega,show i+2+(textS q (s.drop (i+2))).2.1=i+((textS q (s.drop (i+2))).2.1+2) by omega]
      ·rw [if_neg (by simp [c3]),if_neg c3]
       simp only [textT,List.append_assoc,List.cons_append,List.nil_append]
       generalize textS q (s[i+1]::s.drop (i+1+1))=x
       rw [show i+1+x.2.1+1=i+(x.2.1+1)+1 by omega,show i+1+x.2.1=i+(x.2.1+1) by omega]
   ·have e2:s.drop (i+1)=[]:=List.drop_eq_nil_of_le (by omega)
    rw [e2,show textS q []=([],0,2) by rw [textS],show textS q [s[i]]=if s[i]=q then ([],0,0) else if s[i]=10 then ([],0,1) else ([s[i]],1,2) by rw [textS]]
    by_cases c1:s[i]=q
    ·rw [if_pos (by simpa using c1),if_pos c1]; simp [textT]
    ·rw [if_neg (by simpa using c1),if_neg c1]
     by_cases c2:s[i]=10
     ·rw [if_pos (by simpa using c2),if_pos c2]; simp [textT]
     ·rw [if_neg (by simpa using c2),if_neg c2,if_neg (by simp; intros; omega)]
      simp [textT]
  ·rw [if_neg (by simp only [decide_eq_true_eq]; omega),List.drop_eq_nil_of_le (by omega),show textS q []=([],0,2) by rw [textS]]
   simp [textT]
theorem text_eq {s:List UInt8}{q:UInt8}(hq:s[0]? = some q) (hl:s.length<140737488355328):Z46 s=some (textT s [] 1 (textS q (s.drop 1))):=by
 have hne:1≤s.length:=by
  cases s with
  | nil=>cases hq
  | cons=>simp
 unfold Z46
 exact limF_of (s.length+1) fun k hk=>text_l0 s q hq hl k 1 [] (by omega) hne (by simp)
end Go.Proofs.YtnfgjdbajefoiaaGreatDoorBv
/- The first token of a text, and all of them, as the program cuts them. No program is in sight. -/
namespace Go.Proofs.YtnfgjdbajefoiaaGreatDoorBv
open Go
set_option linter.unusedSimpArgs false
set_option linter.unusedVariables false
deriving instance DecidableEq for TSToken
def isBlank (c:UInt8):Bool:=decide (c=32)||decide (c=9)||decide (c=10)||decide (c=12)||decide (c=13)
def nameT (s:List UInt8):TSToken :=
 let k:=(nameS s).2
 if (s.drop k).head? = some 40 then ⟨2,s.take (k+1),(nameS s).1,0⟩ else ⟨1,s.take k,(nameS s).1,0⟩
def namedT (kind:Int) (s:List UInt8):TSToken:=⟨kind,s.take (1+(nameS (s.drop 1)).2),(nameS (s.drop 1)).1,0⟩
def oneS (c:UInt8):Int:=if c=40∨c=91∨c=123 then 10 else if c=41∨c=93∨c=125 then 11 else if c=92 then 6 else 12
def noteI:List UInt8→Option Nat
 | []=>none
 | [_]=>none
 | c::d::r=>if c=42∧d=47 then some 0 else (noteI (d::r)).map (· + 1)
def noteT (s:List UInt8):TSToken:=⟨9,match noteI (s.drop 2) with | some k=>s.take (k+4) | none=>s,[],0⟩
theorem noteI_le:∀(l:List UInt8) (k:Nat),noteI l=some k→k+2≤l.length
 | [],k,h=>by cases h
 | [_],k,h=>by cases h
 | c::d::r,k,h=>by
  unfold noteI at h
  split at h
  ·cases h; simp
  ·cases hn:noteI (d::r) with
   | none=>rw [hn] at h; cases h
   | some j =>
    rw [hn] at h
    cases h
    have:=noteI_le (d::r) j hn
    simp only [List.length_cons] at this ⊢
    omega
theorem index_note:∀(l:List UInt8),Lib.index l [42,47]=match noteI l with | some k=>(k:Int) | none=>-1
 | []=>rfl
 | [c]=>by simp [Lib.index,noteI,List.isPrefixOf]
 | c::d::r=>by
  have ih:=index_note (d::r)
  unfold Lib.index noteI
  have e:([42,47]:List UInt8).isPrefixOf (c::d::r)=decide (c=42∧d=47):=by
   simp only [List.isPrefixOf,Bool.and_true]
   rw [Bool.eq_iff_iff]
   simp
   constructor
   ·rintro ⟨rfl,rfl⟩; exact ⟨rfl,rfl⟩
   ·rintro ⟨rfl,rfl⟩; exact ⟨rfl,rfl⟩
  rw [e]
  by_cases h:c=42∧d=47
  ·rw [if_pos (by simpa using h),if_pos h]; rfl
  ·rw [if_neg (by simpa using h),if_neg h,ih]
   cases noteI (d::r) with
   | none=>rfl
   | some k =>
    simp only [Option.map_some]
    have hne:¬ (((k:Int) == -1)=true):=by simp
    rw [if_neg hne]
    rfl
def hashB (r:List UInt8):Bool:=match r with
 | []=>false
 | d::_=>isSign d||escS r
def tokS (c:UInt8) (r:List UInt8):TSToken :=
 if c=39∨c=34 then textT (c::r) [] 1 (textS c r)
 else if c=35∧hashB r=true then namedT 4 (c::r)
 else if c=64∧beginsS r=true then namedT 3 (c::r)
 else if 0<(numS (c::r)).2 then numberS (c::r) (numS (c::r)).1 (numS (c::r)).2.toNat
 else if beginsS (c::r) then nameT (c::r)
 else ⟨oneS c,[c],[],0⟩
def firstS (s:List UInt8):TSToken :=
 if s.takeWhile isBlank≠[] then ⟨8,s.takeWhile isBlank,[],0⟩
 else if s.take 2=[47,42] then noteT s
 else match s with
  | []=>⟨12,[],[],0⟩
  | c::r=>tokS c r
theorem blanks_eq (c:UInt8):([32,9,10,12,13]:List UInt8).contains c=isBlank c:=by
 have:=u8_all (p:=fun c=>([32,9,10,12,13]:List UInt8).contains c == isBlank c) (by decide +kernel) c
 simpa using this
theorem trim_eq (s:List UInt8):Z33 s [32,9,10,12,13]=some (s.dropWhile isBlank):=by
 show trimLeft? _ _=_
 unfold trimLeft?
 rw [if_pos (by decide)]
 unfold Lib.trimLeftS
 congr 2
 funext c
 exact blanks_eq c
theorem prefix2 (s:List UInt8) (a b:UInt8):Z44 s [a,b]=some (if s.take 2=[a,b] then (s.drop 2,true) else (s,false)):=by
 unfold Z44 Z5i Z35 Z34
 by_cases hl:2≤s.length
 ·have e1:sub? s 0 ((([a,b]:List UInt8).length:Nat):Int)=some (s.take 2):=sub_take (b:=2) hl
  have e2:sub? s ((([a,b]:List UInt8).length:Nat):Int) (s.length:Int)=some (s.drop 2):=sub_drop (a:=2) hl
  rw [if_pos (by simp; omega),e1,Option.bind_some,Option.bind_some,e2]
  by_cases h:s.take 2=[a,b]
  ·rw [if_neg (by simp [h]),if_pos h]; rfl
  ·rw [if_pos (by simp [h]),if_neg h]; rfl
 ·rw [if_neg (by simp; omega),Option.bind_some,if_pos (by rfl),if_neg (by
   intro h
   have:=congrArg List.length h
   simp at this
   omega)]
  rfl
theorem one_eq (k:Int) (c:UInt8) (r:List UInt8):Z25 k (c::r)=some ⟨k,[c],[],0⟩:=by
 unfold Z25
 have:sub? (c::r) 0 1=some [c]:=sub_take (b:=1) (by simp)
 rw [this,Option.bind_some]
theorem nameT_eq {s:List UInt8}(hl:s.length<140737488355328):(Z1b 1 s 0).bind (fun r_11 =>
  (sub? s (r_11.Raw.length:Int) (s.length:Int)).bind fun r_12 =>
  (Z24 r_12 [40]).bind fun r_13 =>
  if r_13 then
   (sub? s 0 (wi ((r_11.Raw.length:Int)+1))).bind fun r_14 =>
   Z2k r_11 2 r_14
  else
   Z2k r_11 r_11.Kind r_11.Raw)=some (nameT s):=by
 have h1:=named_eq (kind:=1) (s:=s) (a:=0) hl (Nat.zero_le _)
 have h2:=nameS_le _ s rfl
 rw [show (((0:Nat)):Int)=0 from rfl,List.drop_zero,Nat.zero_add] at h1
 have e:(s.take (nameS s).2).length=(nameS s).2:=by rw [List.length_take]; omega
 rw [h1,Option.bind_some]
 simp only [e]
 rw [sub_drop h2,Option.bind_some,hasPrefix1,Option.bind_some]
 unfold nameT Z2k
 by_cases h:(s.drop (nameS s).2).head? = some 40
 ·have h3:(nameS s).2<s.length:=by
   rcases Nat.lt_or_ge (nameS s).2 s.length with h | h'
   ·exact h
   ·rw [List.drop_eq_nil_of_le h'] at h; cases h
  rw [if_pos (by simpa using h),wi_id (by omega) (by omega),show ((nameS s).2:Int)+1=(((nameS s).2+1:Nat):Int) by omega,sub_take (by omega),Option.bind_some]
  simp only [if_pos h]
 ·rw [if_neg (by simpa using h)]
  simp only [if_neg h]
theorem fracN_le (l:List UInt8):(if (fracN l).length=0 then 0 else 1+(fracN l).length)≤l.length:=by
 unfold fracN
 cases l with
 | nil=>simp
 | cons c r =>
  have:=dropWhile_take isD r
  simp only [List.length_cons]
  by_cases hc:c=46
  ·rw [if_pos hc]
   split <;> omega
  ·rw [if_neg hc]; simp
theorem numS_le (s:List UInt8):0≤(numS s).2∧(numS s).2≤s.length:=by
 unfold numS
 simp only
 split
 ·simp
 ·refine ⟨Int.natCast_nonneg _,?_⟩
  have h1:fromN s≤s.length:=by
   unfold fromN
   split
   ·simp
   ·simp; split <;> omega
  have h2:=dropWhile_take isD (s.drop (fromN s))
  have h3:=fracN_le ((s.drop (fromN s)).drop ((s.drop (fromN s)).takeWhile isD).length)
  rw [List.length_drop] at h2
  rw [List.length_drop,List.length_drop] at h3
  omega
theorem j3_eq {c:UInt8}{r:List UInt8}(hl:(c::r).length<140737488355328):Z2l (c::r) false=some (if 0<(numS (c::r)).2 then numberS (c::r) (numS (c::r)).1 (numS (c::r)).2.toNat
 else if beginsS (c::r) then nameT (c::r)
 else ⟨oneS c,[c],[],0⟩):=by
 unfold Z2l
 rw [if_neg (by simp),Number_eq (by omega),Option.bind_some]
 have hn:=numS_le (c::r)
 by_cases h0:0<(numS (c::r)).2
 ·rw [if_pos (by simpa using h0),if_pos h0]
  have e:((numS (c::r)).2.toNat:Int)=(numS (c::r)).2:=by omega
  rw [← e,number_eq hl (by omega),Option.bind_some]
  rfl
 ·rw [if_neg (by simpa using h0),if_neg h0,begins_eq,Option.bind_some]
  cases hb:beginsS (c::r) with
  | true=>rw [if_pos rfl,if_pos rfl]; exact nameT_eq hl
  | false =>
   rw [if_neg (by simp),if_neg (by simp)]
   have h0:at? (c::r) 0=some c:=rfl
   rw [h0,Option.bind_some]
   rw [show decide ((c.toNat:Int)=40)=decide (c=40) from byte_is c 40 (by omega),show decide ((c.toNat:Int)=91)=decide (c=91) from byte_is c 91 (by omega),show decide ((c.toNat:Int)=123)=decide (c=123) from byte_is c 123 (by omega)]
   unfold Z3h Z3g oneS
   rw [show decide ((c.toNat:Int)=41)=decide (c=41) from byte_is c 41 (by omega),show decide ((c.toNat:Int)=93)=decide (c=93) from byte_is c 93 (by omega),show decide ((c.toNat:Int)=125)=decide (c=125) from byte_is c 125 (by omega),show decide ((c.toNat:Int)=92)=decide (c=92) from byte_is c 92 (by omega)]
   simp only [one_eq,Option.bind_some]
   by_cases c1:c=40
   ·subst c1; rfl
   by_cases c2:c=91
   ·subst c2; rfl
   by_cases c3:c=123
   ·subst c3; rfl
   by_cases c4:c=41
   ·subst c4; rfl
   by_cases c5:c=93
   ·subst c5; rfl
   by_cases c6:c=125
   ·subst c6; rfl
   by_cases c7:c=92
   ·subst c7; rfl
   simp [c1,c2,c3,c4,c5,c6,c7]
theorem first_eq {s:List UInt8}(hs:s≠[]) (hl:s.length<4294967281):Z4e s=some (firstS s):=by
 have hdt:=dropWhile_take isBlank s
 have htk:=take_takeWhile isBlank s
 unfold Z4e firstS
 rw [trim_eq,Option.bind_some,wi_id (by omega) (by omega),show (s.length:Int) - ((s.dropWhile isBlank).length:Int)=((s.takeWhile isBlank).length:Int) by omega]
 by_cases hb:s.takeWhile isBlank=[]
 ·rw [if_neg (by simp [hb]),if_neg (by simp [hb]),prefix2,Option.bind_some]
  by_cases hp:s.take 2=[47,42]
  ·rw [if_pos hp,if_pos hp,if_pos rfl]
   have h2:2≤s.length:=by
    have:=congrArg List.length hp
    simp at this
    omega
   have hi:Z6m (s.drop 2) [42,47]=some (Lib.index (s.drop 2) [42,47]):=by
    show index? _ _=_
    unfold index?
    rw [if_pos (by rw [List.length_drop]; omega)]
   rw [hi,Option.bind_some]
   unfold Z4d noteT
   rw [index_note]
   cases hn:noteI (s.drop 2) with
   | none=>rw [if_neg (by decide)]
   | some k =>
    have hle:=noteI_le _ _ hn
    rw [List.length_drop] at hle
    show (if decide (0≤(k:Int))=true then ((sub? s 0 (wi ((k:Int)+4))).bind fun r_4=>some (⟨9,r_4,[],0⟩:TSToken)) else _)=_
    rw [if_pos (by simp),wi_id (by omega) (by omega),show (k:Int)+4=((k+4:Nat):Int) by omega,sub_take (by omega),Option.bind_some]
  ·rw [if_neg hp,if_neg hp,if_neg (by simp)]
   match s,hs with
   | c::r,_ =>
    have h0:at? (c::r) 0=some c:=rfl
    rw [h0,Option.bind_some,show decide ((c.toNat:Int)=39)=decide (c=39) from byte_is c 39 (by omega),show decide ((c.toNat:Int)=34)=decide (c=34) from byte_is c 34 (by omega),show decide ((c.toNat:Int)=35)=decide (c=35) from byte_is c 35 (by omega)]
    show _=some (tokS c r)
    unfold tokS
    by_cases cq:c=39∨c=34
    ·rw [if_pos (by simpa using cq),if_pos cq,text_eq (q:=c) rfl (by omega),Option.bind_some]
     rfl
    ·rw [if_neg (by simpa using cq),if_neg cq]
     have n4:Z1b 4 (c::r) 1=some (namedT 4 (c::r)):=named_eq (a:=1) (by omega) (by simp)
     have n3:Z1b 3 (c::r) 1=some (namedT 3 (c::r)):=named_eq (a:=1) (by omega) (by simp)
     have hsub:sub? (c::r) 1 (((c::r).length:Nat):Int)=some r:=sub_drop (a:=1) (by simp)
     have j2:Z1o (c::r) c false=some (if c=64∧beginsS r=true then namedT 3 (c::r)
       else if 0<(numS (c::r)).2 then numberS (c::r) (numS (c::r)).1 (numS (c::r)).2.toNat
       else if beginsS (c::r) then nameT (c::r)
       else ⟨oneS c,[c],[],0⟩):=by
      unfold Z1o
      rw [if_neg (by simp),show decide ((c.toNat:Int)=64)=decide (c=64) from byte_is c 64 (by omega),hsub,Option.bind_some,begins_eq,Option.bind_some,j3_eq (by omega)]
      by_cases c64:c=64
      ·rw [if_pos (by simpa using c64)]
       cases hb:beginsS r with
       | true =>
        rw [if_pos ⟨c64,rfl⟩]
        unfold Z2l
        rw [if_pos rfl,n3,Option.bind_some]
       | false=>rw [if_neg (by simp),j3_eq (by omega)]
      ·have n64:¬ (c=64∧beginsS r=true):=fun h=>c64 h.1
       rw [if_neg (by simpa using c64),if_neg n64]
     by_cases c35:c=35
     ·cases r with
      | nil =>
       have nh:¬ (c=35∧hashB []=true):=fun h=>by cases h.2
       rw [if_neg (by simp),j2,if_neg nh]
      | cons d r =>
       have h1:at? (c::d::r) 1=some d:=rfl
       rw [if_pos (by simp [c35]; omega),h1,Option.bind_some,sign_eq,hsub,Option.bind_some,escape_eq,Option.bind_some]
       have jt:Z1o (c::d::r) c true=some (namedT 4 (c::d::r)):=by
        unfold Z1o
        rw [if_pos rfl,n4,Option.bind_some]
       cases hsd:isSign d with
       | true=>rw [if_pos rfl,jt,if_pos ⟨c35,by simp [hashB,hsd]⟩]
       | false =>
        rw [if_neg (by simp)]
        cases he:escS (d::r) with
        | true=>rw [jt,if_pos ⟨c35,by simp [hashB,hsd,he]⟩]
        | false =>
         have nh:¬ (c=35∧hashB (d::r)=true):=fun h=>by have:=h.2; simp [hashB,hsd,he] at this
         rw [j2,if_neg nh]
     ·have nh:¬ (c=35∧hashB r=true):=fun h=>c35 h.1
      rw [if_neg (by simp [c35]),j2,if_neg nh]
 ·have hpos:0<(s.takeWhile isBlank).length:=List.length_pos_iff.2 hb
  rw [if_pos (by simp only [decide_eq_true_eq]; omega),if_pos hb,sub_take (by omega),Option.bind_some,htk]
end Go.Proofs.YtnfgjdbajefoiaaGreatDoorBv
/- All tokens of a text, as the program cuts them. No program is in sight. -/
namespace Go.Proofs.YtnfgjdbajefoiaaGreatDoorBv
open Go
set_option linter.unusedSimpArgs false
set_option linter.unusedVariables false
theorem take_pos {s:List UInt8}{m:Nat}(hs:s≠[]) (h:1≤m):1≤(s.take m).length∧(s.take m).length≤s.length:=by
 have:=List.length_pos_iff.2 hs
 rw [List.length_take]
 omega
theorem all_pos {s:List UInt8}(hs:s≠[]):1≤s.length∧s.length≤s.length:=⟨List.length_pos_iff.2 hs,Nat.le_refl _⟩
theorem nameS_pos {s:List UInt8}(h:beginsS s=true):1≤(nameS s).2:=by
 match s,h with
 | [c],h =>
  have h:isStart c=true:=h
  rw [nameS,if_pos (by simp [isSign,h])]
  simp
 | c::d::r,h =>
  have h:(if c=45 then decide (d=45)||isStart d||escS (d::r) else isStart c||escS (c::d::r))=true:=h
  rw [nameS]
  by_cases h1:c=92∧d≠10
  ·rw [if_pos h1]; simp only [addN]; omega
  ·have hsg:isSign c=true:=by
    by_cases hc:c=45
    ·simp [isSign,hc]
    ·rw [if_neg hc] at h
     cases hst:isStart c with
     | true=>simp [isSign,hst]
     | false =>
      rw [hst] at h
      simp only [escS,Bool.false_or,Bool.and_eq_true,decide_eq_true_eq,Bool.not_eq_true',decide_eq_false_iff_not] at h
      exact absurd h h1
   rw [if_neg h1,if_pos hsg]
   simp only [addN]; omega
theorem firstS_raw {s:List UInt8}(hs:s≠[]):1≤(firstS s).Raw.length∧(firstS s).Raw.length≤s.length:=by
 unfold firstS
 have hdt:=dropWhile_take isBlank s
 by_cases hb:s.takeWhile isBlank=[]
 ·rw [if_neg (by simp [hb])]
  by_cases hp:s.take 2=[47,42]
  ·rw [if_pos hp]
   unfold noteT
   cases noteI (s.drop 2) with
   | some k=>exact take_pos hs (by omega)
   | none=>exact all_pos hs
  ·rw [if_neg hp]
   match s,hs with
   | c::r,hs =>
    show 1≤(tokS c r).Raw.length∧(tokS c r).Raw.length≤_
    unfold tokS
    split
    ·unfold textT
     split
     ·exact take_pos hs (by omega)
     ·split
      ·exact take_pos hs (by omega)
      ·exact all_pos hs
    ·split
     ·exact take_pos hs (by omega)
     ·split
      ·exact take_pos hs (by omega)
      ·split
       ·rename_i hn
        unfold numberS
        split
        ·exact take_pos hs (by omega)
        ·split
         ·exact take_pos hs (by omega)
         ·split
          ·exact take_pos hs (by omega)
          ·exact take_pos hs (by omega)
       ·split
        ·rename_i hbeg
         have:=nameS_pos hbeg
         unfold nameT
         simp only
         split
         ·exact take_pos hs (by omega)
         ·exact take_pos hs (by omega)
        ·simp
 ·rw [if_pos hb]
  have:=List.length_pos_iff.2 hb
  exact ⟨this,by show (s.takeWhile isBlank).length≤_; omega⟩
def cutF:Nat→List UInt8→List TSToken
 | 0,_=>[]
 | N+1,s=>if s=[] then [] else firstS s::cutF N (s.drop (firstS s).Raw.length)
def cutS (s:List UInt8):List TSToken:=cutF s.length s
theorem cutF_nil (N:Nat):cutF N []=[]:=by cases N <;> rfl
theorem cutF_more:∀(N M:Nat) (s:List UInt8),s.length≤N→s.length≤M→cutF N s=cutF M s
 | 0,M,s,h1,h2=>by
  rw [show s=[] from List.eq_nil_of_length_eq_zero (by omega),cutF_nil,cutF_nil]
 | N+1,0,s,h1,h2=>by
  rw [show s=[] from List.eq_nil_of_length_eq_zero (by omega),cutF_nil,cutF_nil]
 | N+1,M+1,s,h1,h2=>by
  rw [cutF,cutF]
  by_cases hs:s=[]
  ·rw [if_pos hs,if_pos hs]
  ·have:=firstS_raw hs
   rw [if_neg hs,if_neg hs,cutF_more N M _ (by rw [List.length_drop]; omega) (by rw [List.length_drop]; omega)]
theorem cut_l0:∀(N:Nat) (s:List UInt8) (out:List TSToken),s.length<N→s.length<4294967281→out.length+s.length<4294967281 →
  Z1p (fun out=>some out) N s out=some (out ++ cutS s)
 | 0,s,out,hN,hl,ho=>by omega
 | N+1,s,out,hN,hl,ho=>by
  rw [Z1p]
  by_cases hs:s=[]
  ·subst hs
   rw [if_neg (by simp)]
   simp [cutS,cutF]
  ·obtain ⟨h1,h2⟩:=firstS_raw hs
   rw [if_pos (by simp [hs]),first_eq hs hl,Option.bind_some,appq (by simp; omega),Option.bind_some,sub_drop h2,Option.bind_some,cut_l0 N _ _ (by rw [List.length_drop]; omega) (by rw [List.length_drop]; omega) (by rw [List.length_append,List.length_drop]; simp; omega)]
   congr 1
   rw [List.append_assoc]
   congr 1
   unfold cutS
   have hlen:s.length=(s.length - 1)+1:=by omega
   rw [hlen,cutF,if_neg hs,cutF_more (s.length - 1) (s.drop (firstS s).Raw.length).length _ (by rw [List.length_drop]; omega) (Nat.le_refl _)]
   rfl
theorem cut_eq {s:List UInt8}(hl:s.length<4294967281):Z3i s=some (cutS s):=by
 unfold Z3i
 exact limF_of (s.length+1) fun k hk=>by rw [cut_l0 k s [] (by omega) hl (by simpa using hl)]; rfl
end Go.Proofs.YtnfgjdbajefoiaaGreatDoorBv
/- The document's numbers at the beginning of a text: the same plain function. No program is in sight. -/
namespace Go.Proofs.YtnfgjdbajefoiaaGreatDoorBv
open Go
set_option linter.unusedSimpArgs false
set_option linter.unusedVariables false
theorem rdigit_eq (c:UInt8):Zd (c.toNat:Int)=isD c:=by
 unfold Zd isD
 congr 1
 ·rw [Bool.eq_iff_iff]; simp; omega
 ·rw [Bool.eq_iff_iff]; simp; omega
theorem rat_eq (s:List UInt8) (i:Nat):Zm s (i:Int)=some ((s.getD i 0).toNat:Int):=by
 unfold Zm
 by_cases h:i<s.length
 ·rw [if_pos (by simp only [decide_eq_true_eq]; omega),at_some h,Option.bind_some,List.getD_eq_getElem?_getD,List.getElem?_eq_getElem h]
  rfl
 ·rw [if_neg (by simp only [decide_eq_true_eq]; omega),List.getD_eq_getElem?_getD,List.getElem?_eq_none (by omega)]
  rfl
theorem dig_val {c:UInt8}(h:isD c=true):wr .i64 (wr .u8 ((c.toNat:Int) - 48))=((c.toNat - 48:Nat):Int)∧c.toNat - 48≤9:=by
 simp only [isD,Bool.and_eq_true,decide_eq_true_eq] at h
 refine ⟨?_,by omega⟩
 rw [wr_u8,wr_i64,wi_id (by omega) (by omega)]
 omega
theorem mn_nat (a b:Nat):mn (a:Int) (b:Int)=((min a b:Nat):Int):=by
 unfold mn
 split <;> omega
theorem rnum_l0 (s:List UInt8) (i0:Int) (K:Int→Int→Option (Int×Int)) (hl:s.length≤140737488355328):∀(d i n:Nat),i+d=s.length→n≤1000000000→∀ m,
  Z13 s i0 K (m+d+1) (i:Int) (n:Int)=K ((i+((s.drop i).takeWhile isD).length:Nat):Int) ((((s.drop i).takeWhile isD).foldl addD n:Nat):Int)
 | 0,i,n,hi,hn,m=>by
  rw [Z13,if_neg (by simp only [decide_eq_true_eq]; omega),List.drop_eq_nil_of_le (by omega)]
  rfl
 | d+1,i,n,hi,hn,m=>by
  have h:i<s.length:=by omega
  rw [Z13,if_pos (by simp only [decide_eq_true_eq]; omega),at_some h,Option.bind_some,rdigit_eq,List.drop_eq_getElem_cons h,List.takeWhile_cons]
  unfold Z4v
  cases hc:isD s[i] with
  | false=>simp
  | true =>
   obtain ⟨e1,e2⟩:=dig_val hc
   rw [if_pos rfl,if_pos rfl,at_some h,Option.bind_some,e1,wi_id (n:=10 * (n:Int)) (by omega) (by omega),wi_id (n:=10 * (n:Int)+_) (by omega) (by omega),wi_id (by omega) (by omega),
    show (i:Int)+1=((i+1:Nat):Int) by omega,show 10 * (n:Int)+((s[i].toNat - 48:Nat):Int)=((10 * n+(s[i].toNat - 48):Nat):Int) by omega,show (1000000000:Int)=((1000000000:Nat):Int) from rfl,mn_nat,
    show m+(d+1)=m+d+1 by omega]
   rw [rnum_l0 s i0 K hl d (i+1) _ (by omega) (Nat.min_le_right _ _) m,List.length_cons,List.foldl_cons]
   rw [show i+1+((s.drop (i+1)).takeWhile isD).length=i+(((s.drop (i+1)).takeWhile isD).length+1) by omega]
   rfl
theorem thousN_le (n:Nat) (f:List UInt8):thousN n f≤1000000000:=addD_le _ _
def capA (n d:Nat):Nat:=min (n+d) 1000000000
theorem capA_le (n d:Nat):capA n d≤1000000000:=Nat.min_le_right _ _
def foldU (n u:Nat) (l:List UInt8):Nat:=match l with
 | []=>n
 | c::r=>foldU (capA n (u * (c.toNat - 48))) (u / 10) r
theorem foldU_nil (n u:Nat):foldU n u []=n:=by unfold foldU; rfl
theorem foldU_cons (n u:Nat) (c:UInt8) (r:List UInt8):foldU n u (c::r)=foldU (capA n (u * (c.toNat - 48))) (u / 10) r:=by
 conv=>lhs; unfold foldU
theorem foldU_zero (l:List UInt8) (n:Nat) (h:n≤1000000000):foldU n 0 l=n:=by
 induction l with
 | nil=>exact foldU_nil n 0
 | cons c r ih =>
  have e:capA n (0 * (c.toNat - 48))=n:=by rw [Nat.zero_mul]; exact Nat.min_eq_left h
  rw [foldU_cons,e]
  exact ih
theorem foldU_thous (n:Nat) (f:List UInt8) (hf:∀ c ∈ f,isD c=true):foldU (min (1000 * n) 1000000000) 100 f=thousN n f:=by
 have hd:∀ c,isD c=true→48≤c.toNat∧c.toNat≤57:=fun c h=>by
  simp only [isD,Bool.and_eq_true,decide_eq_true_eq] at h
  exact h
 have e48:(48:UInt8).toNat=48:=rfl
 match f,hf with
 | [],_=>simp only [foldU_nil,foldU_cons]; simp [capA,thousN,addD,e48]; try omega
 | [a],hf =>
  have:=hd a (hf a (by simp))
  simp only [foldU_nil,foldU_cons]; simp [capA,thousN,addD,e48]; try omega
 | [a,b],hf =>
  have:=hd a (hf a (by simp))
  have:=hd b (hf b (by simp))
  simp only [foldU_nil,foldU_cons]; simp [capA,thousN,addD,e48]; try omega
 | a::b::c::r,hf =>
  have:=hd a (hf a (by simp))
  have:=hd b (hf b (by simp))
  have:=hd c (hf c (by simp))
  simp only [foldU_cons]
  rw [show 100 / 10 / 10 / 10=0 from rfl,foldU_zero r _ (capA_le _ _)]
  simp [capA,thousN,addD]; omega
theorem rnum_l3 (s:List UInt8) (K:Int→Int→Int→Option (Int×Int)) (hl:s.length≤140737488355328):∀(d i n q u:Nat),i+d=s.length→n≤1000000000→q≤i→u≤100→∀ m,
  Z14 s K (m+d+1) (i:Int) (n:Int) (q:Int) (u:Int)=K ((i+((s.drop i).takeWhile isD).length:Nat):Int) ((foldU n u ((s.drop i).takeWhile isD):Nat):Int) ((q+((s.drop i).takeWhile isD).length:Nat):Int)
 | 0,i,n,q,u,hi,hn,hq,hu,m=>by
  rw [Z14,if_neg (by simp only [decide_eq_true_eq]; omega),List.drop_eq_nil_of_le (by omega)]
  rfl
 | d+1,i,n,q,u,hi,hn,hq,hu,m=>by
  have h:i<s.length:=by omega
  rw [Z14,if_pos (by simp only [decide_eq_true_eq]; omega),at_some h,Option.bind_some,rdigit_eq,List.drop_eq_getElem_cons h,List.takeWhile_cons]
  unfold Z4x
  cases hc:isD s[i] with
  | false=>simp [foldU_nil]
  | true =>
   obtain ⟨e1,e2⟩:=dig_val hc
   have e3:u * (s[i].toNat - 48)≤100 * 9:=Nat.mul_le_mul hu e2
   have e4:(u:Int) * ((s[i].toNat - 48:Nat):Int)=((u * (s[i].toNat - 48):Nat):Int):=by rw [Int.natCast_mul]
   rw [if_pos rfl,if_pos rfl,at_some h,Option.bind_some,e1,e4,wi_id (n:=((u * (s[i].toNat - 48):Nat):Int)) (by omega) (by omega),wi_id (n:=(n:Int)+_) (by omega) (by omega),wi_id (n:=(i:Int)+1) (by omega) (by omega),wi_id (n:=(q:Int)+1) (by omega) (by omega),
    show (i:Int)+1=((i+1:Nat):Int) by omega,show (q:Int)+1=((q+1:Nat):Int) by omega,show (n:Int)+((u * (s[i].toNat - 48):Nat):Int)=((n+u * (s[i].toNat - 48):Nat):Int) by omega,show (1000000000:Int)=((1000000000:Nat):Int) from rfl,mn_nat,
    show m+(d+1)=m+d+1 by omega,show (u:Int).tdiv 10=((u / 10:Nat):Int) from rfl,wi_id (n:=((u / 10:Nat):Int)) (by omega) (by omega)]
   rw [show min (n+u * (s[i].toNat - 48)) 1000000000=capA n (u * (s[i].toNat - 48)) from rfl,rnum_l3 s K hl d (i+1) (capA n (u * (s[i].toNat - 48))) (q+1) (u / 10) (by omega) (capA_le _ _) (by omega) (by omega) m,List.length_cons]
   rw [show i+1+((s.drop (i+1)).takeWhile isD).length=i+(((s.drop (i+1)).takeWhile isD).length+1) by omega,show q+1+((s.drop (i+1)).takeWhile isD).length=q+(((s.drop (i+1)).takeWhile isD).length+1) by omega,foldU_cons]
theorem rnum_end {s:List UInt8}{i:Int}{n q:Nat}(hn:n≤1000000000) (hq:q≠0→s≠[]) :
  Z3v s i (n:Int) (q:Int)=some (if q=0 then (0,0) else (if s.head? = some 45 then -(n:Int) else (n:Int),i)):=by
 unfold Z3v Z4w
 by_cases h0:q=0
 ·rw [if_pos (by simp only [decide_eq_true_eq]; omega),if_pos h0]
 ·rw [if_neg (by simp only [decide_eq_true_eq]; omega),if_neg h0]
  match s,hq h0 with
  | c::r,_ =>
   have h0:at? (c::r) 0=some c:=rfl
   rw [h0,Option.bind_some]
   by_cases hc:c=45
   ·subst hc
    rw [if_pos (show decide (((45:UInt8).toNat:Int)=45)=true by decide),if_pos (show (45::r).head? = some 45 from rfl),wi_id (by omega) (by omega)]
    congr 2
    omega
   ·rw [if_neg (by simp only [decide_eq_true_eq]; intro e; exact hc (UInt8.toNat_inj.1 (by simpa using (by omega:c.toNat=45)))),if_neg (by simpa using hc)]
theorem NumberAt_eq {s:List UInt8}(hs:s.length≤140737488355328):Z4z s=some (numS s):=by
 have main:∀ a:Nat,a=fromN s→a≤s.length→Z3x s (a:Int)=some (numS s):=by
  intro a hfrom ha
  unfold Z3x
  refine limF_add (s.length - a+1) fun m=>?_
  rw [← Nat.add_assoc]
  refine (rnum_l0 s _ _ hs (s.length - a) a 0 (by omega) (by omega) m).trans ?_
  obtain ⟨w,hw⟩:∃ w,w=(s.drop a).takeWhile isD:=⟨_,rfl⟩
  obtain ⟨f,hf⟩:∃ f,f=fracN ((s.drop a).drop w.length):=⟨_,rfl⟩
  have hwl:w.length≤s.length - a:=by
   have:=dropWhile_take isD (s.drop a)
   rw [← hw,List.length_drop] at this
   omega
  rw [← hw,rat_eq,Option.bind_some]
  have hfd:=foldD_le w 0 (by omega)
  generalize hn:w.foldl addD 0=n at hfd
  have e0:(s.drop a).drop w.length=s.drop (a+w.length):=by rw [List.drop_drop]
  have hspec:numS s=if w.length+f.length=0 then (0,0) else (if s.head? = some 45 then -((thousN n f:Nat):Int) else ((thousN n f:Nat):Int),((a+w.length+if f.length=0 then 0 else 1+f.length:Nat):Int)):=by
   unfold numS
   rw [← hfrom,← hw]
   simp only [← hf,hn]
  have hne:∀ q,q≠0→q=w.length+f.length→s≠[]:=by
   rintro q h0 hq rfl
   have h1:w.length=0:=by simpa using hwl
   have h2:f=[]:=by rw [hf]; simp [fracN]
   rw [h2] at hq
   simp at hq
   omega
  have j17:∀ v:Bool,(v=true→∃ r,s.drop (a+w.length)=46::r∧f=r.takeWhile isD∧f≠[])→(v=false→f=[])→Z3w s ((a+w.length:Nat):Int) (n:Int) (a:Int) v=some (numS s):=by
   intro v h1 h2
   have hm:mn (wi (1000 * (n:Int))) 1000000000=((min (1000 * n) 1000000000:Nat):Int):=by
    rw [wi_id (by omega) (by omega),show 1000 * (n:Int)=((1000 * n:Nat):Int) by omega]
    exact mn_nat _ _
   unfold Z3w
   rw [hm,wi_id (n:=((a+w.length:Nat):Int) - a) (by omega) (by omega),show ((a+w.length:Nat):Int) - a=((w.length:Nat):Int) by omega,wi_id (n:=((a+w.length:Nat):Int)+1) (by omega) (by omega)]
   cases v with
   | true =>
    obtain ⟨r,hr,hfr,hf0⟩:=h1 rfl
    have hlr:=congrArg List.length hr
    simp only [List.length_drop,List.length_cons] at hlr
    have hr1:s.drop (a+w.length+1)=r:=by
     rw [← List.drop_drop,hr]; rfl
    rw [if_pos rfl]
    refine limF_add (s.length - (a+w.length+1)+1) fun m=>?_
    rw [← Nat.add_assoc,show ((a+w.length:Nat):Int)+1=((a+w.length+1:Nat):Int) by omega]
    refine (rnum_l3 s _ hs (s.length - (a+w.length+1)) (a+w.length+1) _ w.length 100 (by omega) (Nat.min_le_right _ _) (by omega) (by omega) m).trans ?_
    have hfl:f.length≠0:=fun h=>hf0 (List.eq_nil_of_length_eq_zero h)
    rw [hr1,← hfr,foldU_thous n f (by rw [hfr]; exact fold_take r),rnum_end (thousN_le n f) (fun h=>hne _ h rfl),hspec]
    congr 1
    rw [if_neg hfl]
    congr 2
    omega
   | false =>
    have hf0:=h2 rfl
    rw [if_neg (by simp),rnum_end (Nat.min_le_right _ _) (fun h=>hne _ h (by rw [hf0]; rfl)),hspec,hf0]
    have:min (1000 * n) 1000000000=thousN n []:=(foldU_thous n [] (fun c hc=>by cases hc))
    rw [this]
    rfl
  show (if _ then _ else _)=_
  have hget:∀{c r},s.drop (a+w.length)=c::r→s[a+w.length]? = some c:=by
   intro c r h
   have:(s.drop (a+w.length))[0]? = some c:=by rw [h]; rfl
   simpa using this
  cases hd:s.drop (a+w.length) with
  | nil =>
   have hlen:s.length≤a+w.length:=by simpa using hd
   have e46:¬ (decide (((s.getD (a+w.length) 0).toNat:Int)=46)=true):=by
    rw [List.getD_eq_getElem?_getD,List.getElem?_eq_none hlen]; decide
   rw [if_neg (by simp only [Bool.and_eq_true]; exact fun h=>e46 h.1)]
   exact j17 false (fun h=>by cases h) (fun _=>by rw [hf,e0,hd]; rfl)
  | cons c r =>
   have hc0:s.getD (a+w.length) 0=c:=by rw [List.getD_eq_getElem?_getD,hget hd]; rfl
   have hlr:=congrArg List.length hd
   simp only [List.length_drop,List.length_cons] at hlr
   rw [hc0,wi_id (n:=((a+w.length:Nat):Int)+1) (by omega) (by omega),show ((a+w.length:Nat):Int)+1=((a+w.length+1:Nat):Int) by omega]
   have hff:f=if c=46 then r.takeWhile isD else []:=by rw [hf,e0,hd]; rfl
   by_cases hc:c=46
   ·subst hc
    rw [if_pos rfl] at hff
    cases r with
    | nil =>
     simp only [List.length_nil] at hlr
     rw [if_neg (by simp only [Bool.and_eq_true,decide_eq_true_eq]; omega)]
     exact j17 false (fun h=>by cases h) (fun _=>hff)
    | cons x r2 =>
     simp only [List.length_cons] at hlr
     rw [if_pos (by simp only [Bool.and_eq_true,decide_eq_true_eq]; exact ⟨rfl,by omega⟩)]
     have hx:s[a+w.length+1]? = some x:=by
      have:(s.drop (a+w.length))[1]? = some x:=by rw [hd]; rfl
      simpa using this
     rw [at_nat,hx,Option.bind_some,rdigit_eq]
     refine j17 _ (fun h=>⟨_,hd,hff,?_⟩) (fun h=>?_)
     ·rw [hff,List.takeWhile_cons,if_pos h]; simp
     ·rw [hff,List.takeWhile_cons,h]; rfl
   ·rw [if_neg hc] at hff
    rw [if_neg (by
     simp only [Bool.and_eq_true,decide_eq_true_eq]
     intro h
     exact hc (UInt8.toNat_inj.1 (by simpa using (by omega:c.toNat=46))))]
    exact j17 false (fun h=>by cases h) (fun _=>hff)
 unfold Z4z Z4y
 have r0:=rat_eq s 0
 rw [show ((0:Nat):Int)=0 from rfl] at r0
 rw [r0,Option.bind_some,Option.bind_some]
 cases s with
 | nil =>
  rw [if_neg (by decide),if_neg (by decide)]
  exact main 0 rfl (by simp)
 | cons c r =>
  have hg:(c::r).getD 0 0=c:=rfl
  rw [hg]
  by_cases c1:c=43
  ·subst c1
   rw [if_pos (by decide),if_pos rfl]
   exact main 1 (by simp [fromN]) (by simp)
  ·have n1:¬ (decide ((c.toNat:Int)=43)=true):=by
    simp only [decide_eq_true_eq]; intro e; exact c1 (UInt8.toNat_inj.1 (by simpa using (by omega:c.toNat=43)))
   rw [if_neg n1]
   by_cases c2:c=45
   ·subst c2
    rw [if_pos (by decide)]
    exact main 1 (by simp [fromN]) (by simp)
   ·have n2:¬ (decide ((c.toNat:Int)=45)=true):=by
     simp only [decide_eq_true_eq]; intro e; exact c2 (UInt8.toNat_inj.1 (by simpa using (by omega:c.toNat=45)))
    rw [if_neg n2]
    exact main 0 (by simp [fromN,c1,c2]) (by simp)
end Go.Proofs.YtnfgjdbajefoiaaGreatDoorBv
/- A text's tokens, as the document cuts them: the same plain functions. No program is in sight. -/
namespace Go.Proofs.YtnfgjdbajefoiaaGreatDoorBv
open Go
set_option linter.unusedSimpArgs false
set_option linter.unusedVariables false
theorem rletter_eq (c:UInt8):Zn (c.toNat:Int)=isStart c:=by
 have:=u8_all (p:=fun c=>Zn (c.toNat:Int) == isStart c) (by decide +kernel) c
 simpa using this
theorem rnamed_eq (c:UInt8):Z2d (c.toNat:Int)=isSign c:=by
 unfold Z2d isSign
 rw [rletter_eq,rdigit_eq]
 congr 1
 exact byte_is c 45 (by omega)
theorem rblank_eq (c:UInt8):Z2b (c.toNat:Int)=isBlank c:=by
 have:=u8_all (p:=fun c=>Z2b (c.toNat:Int) == isBlank c) (by decide +kernel) c
 simpa using this
theorem drop_get {s:List UInt8}{i k:Nat}:(s.drop i)[k]? = s[i+k]?:=by rw [List.getElem?_drop]
theorem rescape_eq (s:List UInt8) (i:Nat) (hi:i≤9223372036854775806):Z1v s (i:Int)=some (escS (s.drop i)):=by
 unfold Z1v Z50
 rw [rat_eq,Option.bind_some,wi_id (by omega) (by omega),show (i:Int)+1=((i+1:Nat):Int) by omega]
 by_cases h:i<s.length
 ·have e1:=List.drop_eq_getElem_cons h
  have g:s.getD i 0=s[i]:=by rw [List.getD_eq_getElem?_getD,List.getElem?_eq_getElem h]; rfl
  rw [g,show decide ((s[i].toNat:Int)=92)=decide (s[i]=92) from byte_is _ 92 (by omega),e1]
  by_cases h2:i+1<s.length
  ·have e2:=List.drop_eq_getElem_cons h2
   rw [at_some h2,Option.bind_some,e2,show decide ((s[i+1].toNat:Int)=10)=decide (s[i+1]=10) from byte_is _ 10 (by omega)]
   unfold escS
   by_cases hc:s[i]=92
   ·rw [if_pos (by simp [hc]; omega)]; simp [hc]
   ·rw [if_neg (by simp [hc])]; simp [hc]
  ·have e2:s.drop (i+1)=[]:=List.drop_eq_nil_of_le (by omega)
   rw [if_neg (by simp; intros; omega),e2]
   rfl
 ·have g:s.getD i 0=0:=by rw [List.getD_eq_getElem?_getD,List.getElem?_eq_none (by omega)]; rfl
  rw [g,if_neg (by simp),List.drop_eq_nil_of_le (by omega)]
  rfl
theorem rbegins_eq (s:List UInt8) (i:Nat) (hi:i≤9223372036854775805):Z2u s (i:Int)=some (beginsS (s.drop i)):=by
 unfold Z2u Z2t Z3y
 rw [rat_eq,Option.bind_some,wi_id (by omega) (by omega),show (i:Int)+1=((i+1:Nat):Int) by omega,rescape_eq s i (by omega),rescape_eq s (i+1) (by omega),Option.bind_some,Option.bind_some]
 by_cases h:i<s.length
 ·have e1:=List.drop_eq_getElem_cons h
  have g:s.getD i 0=s[i]:=by rw [List.getD_eq_getElem?_getD,List.getElem?_eq_getElem h]; rfl
  rw [g,show decide ((s[i].toNat:Int)=45)=decide (s[i]=45) from byte_is _ 45 (by omega),e1,at_some h,Option.bind_some,rletter_eq]
  by_cases h2:i+1<s.length
  ·have e2:=List.drop_eq_getElem_cons h2
   rw [at_some h2,Option.bind_some,Option.bind_some,rletter_eq,e2,show decide ((s[i+1].toNat:Int)=45)=decide (s[i+1]=45) from byte_is _ 45 (by omega)]
   rw [show beginsS (s[i]::s[i+1]::s.drop (i+1+1))=if s[i]=45 then decide (s[i+1]=45)||isStart s[i+1]||escS (s[i+1]::s.drop (i+1+1)) else isStart s[i]||escS (s[i]::s[i+1]::s.drop (i+1+1)) from rfl]
   by_cases hc:s[i]=45
   ·rw [if_pos (by simpa using hc),if_pos (by simp only [decide_eq_true_eq]; omega),if_pos hc]
    by_cases hd:s[i+1]=45
    ·rw [if_pos (by simpa using hd)]; simp [hd]
    ·rw [if_neg (by simpa using hd)]
     cases isStart s[i+1] <;> simp [hd]
   ·rw [if_neg (by simpa using hc),if_pos (by simp only [decide_eq_true_eq]; omega),if_neg hc]
    cases isStart s[i] <;> simp
  ·have e2:s.drop (i+1)=[]:=List.drop_eq_nil_of_le (by omega)
   rw [e2]
   show _=some (isStart s[i])
   by_cases hc:s[i]=45
   ·rw [if_pos (by simpa using hc),if_neg (by simp only [decide_eq_true_eq]; omega)]
    rw [hc]; rfl
   ·rw [if_neg (by simpa using hc),if_pos (by simp only [decide_eq_true_eq]; omega)]
    cases isStart s[i] <;> rfl
 ·have g:s.getD i 0=0:=by rw [List.getD_eq_getElem?_getD,List.getElem?_eq_none (by omega)]; rfl
  rw [g,if_neg (by simp),if_neg (by simp only [decide_eq_true_eq]; omega),List.drop_eq_nil_of_le (by omega)]
  rfl
theorem sub_one {s:List UInt8}{i:Nat}(h:i<s.length):sub? s (i:Int) ((i+1:Nat):Int)=some [s[i]]:=by
 rw [sub_nat (by omega) (by omega),List.drop_take,show i+1 - i=1 by omega,List.drop_eq_getElem_cons h]
 rfl
theorem said_l0 (s:List UInt8) (hl:s.length<140737488355328):∀(N i:Nat) (b:List UInt8),s.length - i<N→i≤s.length→b.length≤i →
  Z15 s (fun i b=>some (b,i)) N (i:Int) b=some (b ++ (nameS (s.drop i)).1,((i+(nameS (s.drop i)).2:Nat):Int))
 | 0,i,b,hN,hi,hb=>by omega
 | N+1,i,b,hN,hi,hb=>by
  rw [Z15]
  unfold Z3z Z52
  by_cases h:i<s.length
  ·have e1:=List.drop_eq_getElem_cons h
   rw [if_pos (by simp only [decide_eq_true_eq]; omega),at_some h,Option.bind_some,rnamed_eq,rescape_eq s i (by omega),Option.bind_some,Option.bind_some,wi_id (n:=(i:Int)+1) (by omega) (by omega),show (i:Int)+1=((i+1:Nat):Int) by omega,wi_id (n:=((i+1:Nat):Int)+1) (by omega) (by omega),
    show ((i+1:Nat):Int)+1=((i+1+1:Nat):Int) by omega,sub_one h,Option.bind_some,catq (by simp; omega),Option.bind_some,show decide ((s[i].toNat:Int)=92)=decide (s[i]=92) from byte_is _ 92 (by omega),e1,
    said_l0 s hl N (i+1) (b ++ [s[i]]) (by omega) (by omega) (by simp; omega)]
   by_cases h2:i+1<s.length
   ·have e2:=List.drop_eq_getElem_cons h2
    rw [e2,sub_one h2,Option.bind_some,catq (by simp; omega),Option.bind_some,said_l0 s hl N (i+1+1) (b ++ [s[i+1]]) (by omega) (by omega) (by simp; omega)]
    rw [show nameS (s[i]::s[i+1]::s.drop (i+1+1))=if s[i]=92∧s[i+1]≠10 then addN [s[i+1]] 2 (nameS (s.drop (i+1+1))) else if isSign s[i] then addN [s[i]] 1 (nameS (s[i+1]::s.drop (i+1+1))) else ([],0) by rw [nameS]]
    have n92:∀ c:UInt8,c=92→isSign c=false:=by rintro c rfl; decide
    by_cases hc:s[i]=92
    ·rw [n92 _ hc]
     unfold escS
     by_cases hd:s[i+1]=10
     ·simp [hc,hd]
     ·simp [hc,hd,addN]; omega
    ·have:escS (s[i]::s[i+1]::s.drop (i+1+1))=false:=by simp [escS,hc]
     rw [this]
     cases isSign s[i] with
     | true=>simp [hc,addN]; omega
     | false=>simp [hc]
   ·have e2:s.drop (i+1)=[]:=List.drop_eq_nil_of_le (by omega)
    rw [e2,show nameS []=([],0) by rw [nameS],show nameS [s[i]]=if isSign s[i] then ([s[i]],1) else ([],0) by rw [nameS],show escS [s[i]]=false from rfl]
    have n92:∀ c:UInt8,isSign c=true→c≠92:=by rintro c h rfl; revert h; decide
    cases hs:isSign s[i] with
    | true=>simp [n92 _ hs]
    | false=>simp
  ·rw [if_neg (by simp only [decide_eq_true_eq]; omega),if_neg (by simp),List.drop_eq_nil_of_le (by omega),show nameS []=([],0) by rw [nameS]]
   simp
theorem said_eq {s:List UInt8}{i:Nat}(hl:s.length<140737488355328) (hi:i≤s.length):Z1w s (i:Int)=some ((nameS (s.drop i)).1,((i+(nameS (s.drop i)).2:Nat):Int)):=by
 unfold Z1w
 refine limF_of (s.length+1) fun k hk=>?_
 have:=said_l0 s hl k i [] (by omega) hi (by simp)
 simpa using this
theorem rlower_l0 (s:List UInt8) (hl:s.length<140737488355328):∀(N i:Nat),s.length - i<N→i≤s.length →
  Z1l (fun b=>some (byts b)) N (ints ((s.take i).map lowB ++ s.drop i)) (i:Int)=some (s.map lowB)
 | 0,i,hN,hi=>by omega
 | N+1,i,hN,hi=>by
  rw [Z1l]
  have hlen:((s.take i).map lowB).length=i:=by simp; omega
  have hall:(ints ((s.take i).map lowB ++ s.drop i)).length=s.length:=by rw [ints_length,List.length_append,hlen,List.length_drop]; omega
  by_cases h:i<s.length
  ·have hg:((s.take i).map lowB ++ s.drop i)[i]? = some s[i]:=by
    rw [List.getElem?_append_right (by omega),hlen]
    simp [h]
   have ih:=rlower_l0 s hl N (i+1) (by omega) (by omega)
   have eset:((s.take i).map lowB ++ s.drop i).set i (lowB s[i])=(s.take (i+1)).map lowB ++ s.drop (i+1):=by
    rw [List.set_append_right _ _ (by omega),hlen,List.drop_eq_getElem_cons h,Nat.sub_self,List.set_cons_zero,List.take_add_one,List.getElem?_eq_getElem h]
    simp only [Option.toList_some,List.map_append,List.map_cons,List.map_nil,List.append_assoc,List.cons_append,List.nil_append]
   have hint:∀ c:UInt8,(ints ((s.take i).map lowB ++ s.drop i)).set i (c.toNat:Int)=ints (((s.take i).map lowB ++ s.drop i).set i c):=by
    intro c
    unfold ints
    rw [List.map_set]
   have ha:at? (ints ((s.take i).map lowB ++ s.drop i)) (i:Int)=some (s[i].toNat:Int):=by rw [at_nat,ints_get,hg]; rfl
   rw [if_pos (by simp only [decide_eq_true_eq]; omega),ha,Option.bind_some,Option.bind_some]
   unfold Z54 Z53
   rw [ha,Option.bind_some,Option.bind_some,wi_id (by omega) (by omega),show (i:Int)+1=((i+1:Nat):Int) by omega]
   by_cases hc:65≤s[i].toNat∧s[i].toNat≤90
   ·have e:lowB s[i]=s[i]+32:=by unfold lowB; rw [if_pos hc]
    have e2:wr .u8 ((s[i].toNat:Int)+32)=((lowB s[i]).toNat:Int):=by
     rw [e,wr_u8,UInt8.toNat_add]
     have:(32:UInt8).toNat=32:=rfl
     omega
    rw [if_pos (by simp; omega),if_pos (by simp; omega),e2,show ((i:Int)).toNat=i from rfl,hint,eset]
    exact ih
   ·have e:lowB s[i]=s[i]:=by unfold lowB; rw [if_neg hc]
    have eq:(s.take i).map lowB ++ s.drop i=(s.take (i+1)).map lowB ++ s.drop (i+1):=by
     rw [← eset,e]
     exact (set_self hg).symm
    rw [eq]
    by_cases c1:65≤s[i].toNat
    ·rw [if_pos (by simp; omega),if_neg (by simp; omega)]; exact ih
    ·rw [if_neg (by simp; omega),if_neg (by simp)]; exact ih
  ·have:i=s.length:=by omega
   subst this
   rw [if_neg (by rw [hall]; simp)]
   simp [byts_ints]
theorem rlower_eq {s:List UInt8}(hl:s.length<140737488355328):Z40 s=some (s.map lowB):=by
 unfold Z40
 refine limF_of (s.length+1) fun k hk=>?_
 have:=rlower_l0 s hl k 0 (by omega) (by omega)
 simpa using this
theorem numAt_eq {s:List UInt8}{num:Int}{n:Nat}(hl:s.length<140737488355328) (hn:n≤s.length):Z55 s num (n:Int)=some (numberS s num n):=by
 unfold Z55 Z41 numberS
 rw [sub_take hn,Option.bind_some,rat_eq,Option.bind_some,rbegins_eq s n (by omega),Option.bind_some,said_eq hl hn,Option.bind_some]
 have gd:∀ c r,s.drop n=c::r→s.getD n 0=c:=by
  intro c r h
  have:(s.drop n)[0]? = some c:=by rw [h]; rfl
  rw [drop_get,Nat.add_zero] at this
  rw [List.getD_eq_getElem?_getD,this]; rfl
 cases hd:s.drop n with
 | nil =>
  have:s.length≤n:=by simpa using hd
  have g:s.getD n 0=0:=by rw [List.getD_eq_getElem?_getD,List.getElem?_eq_none this]; rfl
  rw [g,if_neg (by decide),if_neg (by simp [beginsS])]
 | cons c r =>
  have hlr:=congrArg List.length hd
  simp only [List.length_drop,List.length_cons] at hlr
  rw [gd c r hd,show decide ((c.toNat:Int)=37)=decide (c=37) from byte_is _ 37 (by omega)]
  by_cases hc:c=37
  ·rw [if_pos (by simpa using hc),wi_id (by omega) (by omega),show (n:Int)+1=((n+1:Nat):Int) by omega,sub_take (by omega),Option.bind_some]
   simp only [if_pos hc]
  ·rw [if_neg (by simpa using hc)]
   simp only [if_neg hc]
   cases hb:beginsS (c::r) with
   | false=>rfl
   | true =>
    have h1:=nameS_le _ (c::r) rfl
    have h2:=nameS_len _ (c::r) rfl
    simp only [List.length_cons] at h1 h2
    rw [if_pos rfl,if_pos rfl,sub_take (by omega),Option.bind_some,rlower_eq (s:=(nameS (c::r)).1) (by omega),Option.bind_some]
theorem note_l0 (s:List UInt8) (hl:s.length<140737488355328):∀(N i:Nat),s.length - i<N→i≤s.length →
  Z1k s (fun _=>some (⟨9,s,[],0⟩:TSToken)) N (i:Int)=some ⟨9,match noteI (s.drop i) with | some k=>s.take (i+k+2) | none=>s,[],0⟩
 | 0,i,hN,hi=>by omega
 | N+1,i,hN,hi=>by
  rw [Z1k,wi_id (by omega) (by omega),show (i:Int)+1=((i+1:Nat):Int) by omega]
  unfold Z4r
  by_cases h2:i+1<s.length
  ·have h:i<s.length:=by omega
   have e1:=List.drop_eq_getElem_cons h
   have e2:=List.drop_eq_getElem_cons h2
   have ih:=note_l0 s hl N (i+1) (by omega) (by omega)
   rw [e2] at ih
   rw [if_pos (by simp only [decide_eq_true_eq]; omega),at_some h,Option.bind_some,at_some h2,Option.bind_some,show decide ((s[i].toNat:Int)=42)=decide (s[i]=42) from byte_is _ 42 (by omega),show decide ((s[i+1].toNat:Int)=47)=decide (s[i+1]=47) from byte_is _ 47 (by omega),
    wi_id (by omega) (by omega),show (i:Int)+1=((i+1:Nat):Int) by omega,wi_id (by omega) (by omega),show (i:Int)+2=((i+2:Nat):Int) by omega,sub_take (by omega),Option.bind_some,ih,e1,e2]
   rw [show noteI (s[i]::s[i+1]::s.drop (i+1+1))=if s[i]=42∧s[i+1]=47 then some 0 else (noteI (s[i+1]::s.drop (i+1+1))).map (· + 1) from rfl]
   by_cases hc:s[i]=42∧s[i+1]=47
   ·rw [if_pos (by simpa using hc.1),if_pos (by simpa using hc.2)]
    simp only [if_pos hc]
   ·have fin:∀ o:Option Nat,(some (⟨9,match o with | some k=>s.take (i+1+k+2) | none=>s,[],0⟩:TSToken))=some ⟨9,match o.map (· + 1) with | some k=>s.take (i+k+2) | none=>s,[],0⟩:=by
     intro o
     cases o with
     | none=>rfl
     | some k=>simp only [Option.map_some]; rw [show i+1+k+2=i+(k+1)+2 by omega]
    simp only [if_neg hc]
    by_cases c1:s[i]=42
    ·rw [if_pos (by simpa using c1),if_neg (by simp; exact fun h=>hc ⟨c1,h⟩)]
     exact fin _
    ·rw [if_neg (by simpa using c1),if_neg (by simp)]
     exact fin _
  ·rw [if_neg (by simp only [decide_eq_true_eq]; omega)]
   have:noteI (s.drop i)=none:=by
    match hd:s.drop i with
    | []=>rfl
    | [_]=>rfl
    | a::b::r =>
     have:=congrArg List.length hd
     simp at this
     omega
   rw [this]
theorem noteAt_eq {s:List UInt8}(hl:s.length<140737488355328) (h2:2≤s.length):Z4s s=some (noteT s):=by
 unfold Z4s noteT
 refine limF_of (s.length+1) fun k hk=>?_
 rw [show (2:Int)=((2:Nat):Int) from rfl,note_l0 s hl k 2 (by omega) h2]
 cases noteI (s.drop 2) with
 | none=>rfl
 | some k=>simp only []; rw [show 2+k+2=k+4 by omega]
end Go.Proofs.YtnfgjdbajefoiaaGreatDoorBv
/- All tokens of a text, as the document cuts them: the same. No program is in sight. -/
namespace Go.Proofs.YtnfgjdbajefoiaaGreatDoorBv
open Go
set_option linter.unusedSimpArgs false
set_option linter.unusedVariables false
noncomputable abbrev rtextK (s:List UInt8) (value1:List UInt8) (i_1:Int):Option TSToken :=
   if decide (i_1<(s.length:Int)) then
    (at? s i_1).bind fun c_4 =>
    (at? s 0).bind fun c_5 =>
    Z2c s i_1 value1 (decide ((c_4.toNat:Int)=(c_5.toNat:Int)))
   else
    Z2c s i_1 value1 false
theorem eqb (c q:UInt8):decide ((c.toNat:Int)=(q.toNat:Int))=decide (c=q):=by
 have:=byte_is c q.toNat q.toNat_lt
 rwa [UInt8.ofNat_toNat] at this
theorem rtext_l0 (s:List UInt8) (q:UInt8) (hq:s[0]? = some q) (hq10:q≠10) (hl:s.length<140737488355328):∀(N i:Nat) (b:List UInt8),s.length - i<N→i≤s.length→b.length≤i →
  Z12 s (rtextK s) N b (i:Int)=some (textT s b i (textS q (s.drop i)))
 | 0,i,b,hN,hi,hb=>by omega
 | N+1,i,b,hN,hi,hb=>by
  rw [Z12]
  have a0:at? s 0=some q:=by
   have:=at_nat s 0
   rw [hq] at this
   exact this
  unfold Z3u Z4t
  by_cases h:i<s.length
  ·have e1:=List.drop_eq_getElem_cons h
   have hK:∀ v:List UInt8,rtextK s v (i:Int)=if s[i]=q then some ⟨5,s.take (i+1),v,0⟩ else some ⟨6,s.take i,[],0⟩:=by
    intro v
    unfold rtextK Z2c
    rw [if_pos (by simp only [decide_eq_true_eq]; omega),at_some h,Option.bind_some,a0,Option.bind_some,eqb,wi_id (by omega) (by omega),show (i:Int)+1=((i+1:Nat):Int) by omega,sub_take (by omega),Option.bind_some,sub_take hi,Option.bind_some]
    by_cases c1:s[i]=q
    ·rw [if_pos (by simpa using c1),if_pos c1]
    ·rw [if_neg (by simpa using c1),if_neg c1]
   rw [if_pos (by simp only [decide_eq_true_eq]; omega),at_some h,a0]
   simp only [Option.bind_some]
   rw [eqb,show decide ((s[i].toNat:Int)=10)=decide (s[i]=10) from byte_is _ 10 (by omega),show decide ((s[i].toNat:Int)=92)=decide (s[i]=92) from byte_is _ 92 (by omega),
    wi_id (n:=(i:Int)+1) (by omega) (by omega),show (i:Int)+1=((i+1:Nat):Int) by omega,wi_id (n:=((i+1:Nat):Int)+1) (by omega) (by omega),show ((i+1:Nat):Int)+1=((i+1+1:Nat):Int) by omega,sub_one h,Option.bind_some,catq (by simp; omega),Option.bind_some,hK,
    rtext_l0 s q hq hq10 hl N (i+1) (b ++ [s[i]]) (by omega) (by omega) (by simp; omega),e1]
   by_cases h2:i+1<s.length
   ·have e2:=List.drop_eq_getElem_cons h2
    rw [e2,textS,sub_one h2,Option.bind_some,catq (by simp; omega),Option.bind_some,rtext_l0 s q hq hq10 hl N (i+1+1) (b ++ [s[i+1]]) (by omega) (by omega) (by simp; omega)]
    by_cases c2:s[i]=10
    ·have c1:¬ s[i]=q:=fun h=>hq10 (by rw [← h,c2])
     rw [if_neg (by simp [c2]),if_neg (by simp),if_neg c1,if_neg c1,if_pos c2]
     simp [textT]
    ·rw [if_pos (by simp [c2])]
     by_cases c1:s[i]=q
     ·rw [if_neg (by simp [c1]),if_pos c1,if_pos c1]; simp [textT]
     ·rw [if_pos (by simp [c1]),if_neg c1,if_neg c2]
      by_cases c3:s[i]=92
      ·rw [if_pos (by simp [c3]; omega),if_pos c3]
       simp only [textT,List.append_assoc,List.cons_append,List.nil_append]
       generalize textS q (s.drop (i+1+1))=x
       rw [show i+1+1+x.2.1+1=i+(x.2.1+2)+1 by omega,show i+1+1+x.2.1=i+(x.2.1+2) by omega]
      ·rw [if_neg (by simp [c3]),if_neg c3]
       simp only [textT,List.append_assoc,List.cons_append,List.nil_append]
       generalize textS q (s[i+1]::s.drop (i+1+1))=x
       rw [show i+1+x.2.1+1=i+(x.2.1+1)+1 by omega,show i+1+x.2.1=i+(x.2.1+1) by omega]
   ·have e2:s.drop (i+1)=[]:=List.drop_eq_nil_of_le (by omega)
    rw [e2,show textS q []=([],0,2) by rw [textS],show textS q [s[i]]=if s[i]=q then ([],0,0) else if s[i]=10 then ([],0,1) else ([s[i]],1,2) by rw [textS]]
    by_cases c2:s[i]=10
    ·have c1:¬ s[i]=q:=fun h=>hq10 (by rw [← h,c2])
     rw [if_neg (by simp [c2]),if_neg (by simp),if_neg c1,if_neg c1,if_pos c2]
     simp [textT]
    ·rw [if_pos (by simp [c2])]
     by_cases c1:s[i]=q
     ·rw [if_neg (by simp [c1]),if_pos c1,if_pos c1]; simp [textT]
     ·rw [if_pos (by simp [c1]),if_neg c1,if_neg c2,if_neg (by simp; intros; omega)]
      simp [textT]
  ·rw [if_neg (by simp only [decide_eq_true_eq]; omega),if_neg (by simp),List.drop_eq_nil_of_le (by omega),show textS q []=([],0,2) by rw [textS]]
   have:i=s.length:=by omega
   subst this
   unfold rtextK Z2c
   rw [if_neg (by simp),if_neg (by simp),sub_take (Nat.le_refl _),Option.bind_some,List.take_length]
   simp [textT]
theorem textAt_eq {s:List UInt8}{q:UInt8}(hq:s[0]? = some q) (hq10:q≠10) (hl:s.length<140737488355328):Z4u s=some (textT s [] 1 (textS q (s.drop 1))):=by
 have hne:1≤s.length:=by
  cases s with
  | nil=>cases hq
  | cons=>simp
 unfold Z4u
 exact limF_of (s.length+1) fun k hk=>rtext_l0 s q hq hq10 hl k 1 [] (by omega) hne (by simp)
theorem rblank_l0 (s:List UInt8) (hl:s.length<140737488355328) (K:Int→Option TSToken):∀(N i:Nat),s.length - i<N→i≤s.length →
  Z1m s K N (i:Int)=K ((i+((s.drop i).takeWhile isBlank).length:Nat):Int)
 | 0,i,hN,hi=>by omega
 | N+1,i,hN,hi=>by
  rw [Z1m]
  unfold Z56
  by_cases h:i<s.length
  ·rw [if_pos (by simp only [decide_eq_true_eq]; omega),at_some h,Option.bind_some,rblank_eq,List.drop_eq_getElem_cons h,List.takeWhile_cons,wi_id (by omega) (by omega),show (i:Int)+1=((i+1:Nat):Int) by omega,rblank_l0 s hl K N (i+1) (by omega) (by omega)]
   cases isBlank s[i] with
   | true=>rw [if_pos rfl,if_pos rfl,List.length_cons]; congr 2; omega
   | false=>rw [if_neg (by simp),if_neg (by simp)]; rfl
  ·rw [if_neg (by simp only [decide_eq_true_eq]; omega),if_neg (by simp),List.drop_eq_nil_of_le (by omega)]
   rfl
theorem rj7 (c:UInt8) (r:List UInt8):(if (((decide ((c.toNat:Int)=40))||(decide ((c.toNat:Int)=91)))||(decide ((c.toNat:Int)=123)))=true then Z2v c (c::r) 10 else Z2v c (c::r) 12)=some ⟨oneS c,[c],[],0⟩:=by
 have h1:sub? (c::r) 0 1=some [c]:=sub_take (b:=1) (by simp)
 unfold Z2v Z58 Z57
 simp only [h1,Option.bind_some]
 rw [show decide ((c.toNat:Int)=40)=decide (c=40) from byte_is c 40 (by omega),show decide ((c.toNat:Int)=91)=decide (c=91) from byte_is c 91 (by omega),show decide ((c.toNat:Int)=123)=decide (c=123) from byte_is c 123 (by omega),
  show decide ((c.toNat:Int)=41)=decide (c=41) from byte_is c 41 (by omega),show decide ((c.toNat:Int)=93)=decide (c=93) from byte_is c 93 (by omega),show decide ((c.toNat:Int)=125)=decide (c=125) from byte_is c 125 (by omega),show decide ((c.toNat:Int)=92)=decide (c=92) from byte_is c 92 (by omega)]
 unfold oneS
 by_cases c1:c=40
 ·subst c1; rfl
 by_cases c2:c=91
 ·subst c2; rfl
 by_cases c3:c=123
 ·subst c3; rfl
 by_cases c4:c=41
 ·subst c4; rfl
 by_cases c5:c=93
 ·subst c5; rfl
 by_cases c6:c=125
 ·subst c6; rfl
 by_cases c7:c=92
 ·subst c7; rfl
 simp [c1,c2,c3,c4,c5,c6,c7]
theorem num_not (c:UInt8) (r:List UInt8) (h:c=35∨c=64):¬ 0<(numS (c::r)).2:=by
 have hf:fromN (c::r)=0:=by rcases h with rfl | rfl <;> rfl
 have hd:isD c=false:=by rcases h with rfl | rfl <;> rfl
 have h46:¬ c=46:=by rcases h with rfl | rfl <;> decide
 have ht:(c::r).takeWhile isD=[]:=by rw [List.takeWhile_cons,hd]; rfl
 have e:numS (c::r)=(0,0):=by
  unfold numS
  rw [hf,List.drop_zero,ht]
  have:fracN ((c::r).drop ([]:List UInt8).length)=[]:=by
   show (if c=46 then _ else _)=_
   rw [if_neg h46]
  simp only [this]
  rfl
 rw [e]
 simp
theorem rnameT {s:List UInt8}(hl:s.length<140737488355328):((Z1w s 0).bind fun r_10 =>
   (Zm s r_10.2).bind fun r_11 =>
   if decide (r_11=40) then
    (sub? s 0 (wi (r_10.2+1))).bind fun r_12 =>
    some (⟨2,r_12,r_10.1,0⟩:TSToken)
   else
    (sub? s 0 r_10.2).bind fun r_13 =>
    some (⟨1,r_13,r_10.1,0⟩:TSToken))=some (nameT s):=by
 have h1:=said_eq (s:=s) (i:=0) hl (Nat.zero_le _)
 have h2:=nameS_le _ s rfl
 rw [show ((0:Nat):Int)=0 from rfl,List.drop_zero,Nat.zero_add] at h1
 rw [h1,Option.bind_some,rat_eq,Option.bind_some]
 show _=some (if (s.drop (nameS s).2).head? = some 40 then (⟨2,s.take ((nameS s).2+1),(nameS s).1,0⟩:TSToken) else ⟨1,s.take (nameS s).2,(nameS s).1,0⟩)
 have hh:(s.drop (nameS s).2).head? = s[(nameS s).2]?:=by rw [List.head?_drop]
 rw [hh]
 by_cases h3:(nameS s).2<s.length
 ·have g:s.getD (nameS s).2 0=s[(nameS s).2]:=by rw [List.getD_eq_getElem?_getD,List.getElem?_eq_getElem h3]; rfl
  rw [g,show decide ((s[(nameS s).2].toNat:Int)=40)=decide (s[(nameS s).2]=40) from byte_is _ 40 (by omega),List.getElem?_eq_getElem h3]
  by_cases c:s[(nameS s).2]=40
  ·rw [if_pos (by simpa using c),wi_id (by omega) (by omega),show ((nameS s).2:Int)+1=(((nameS s).2+1:Nat):Int) by omega,sub_take (by omega),Option.bind_some]
   simp [c]
  ·rw [if_neg (by simpa using c),sub_take h2,Option.bind_some]
   simp [c]
 ·have g:s.getD (nameS s).2 0=0:=by rw [List.getD_eq_getElem?_getD,List.getElem?_eq_none (by omega)]; rfl
  rw [g,if_neg (by decide),sub_take h2,Option.bind_some,List.getElem?_eq_none (by omega)]
  simp
theorem TokenAt_eq {s:List UInt8}(hs:s≠[]) (hl:s.length<140737488355328):Z59 s=some (firstS s):=by
 match s,hs with
 | c::r,hs =>
  have h0:at? (c::r) 0=some c:=rfl
  have nf:¬ ((false:Bool)=true):=by simp
  unfold Z59
  rw [h0,Option.bind_some,rblank_eq]
  cases hb:isBlank c with
  | true =>
   rw [if_pos rfl]
   refine limF_of ((c::r).length+1) fun k hk=>?_
   rw [show (0:Int)=((0:Nat):Int) from rfl,rblank_l0 (c::r) hl _ k 0 (by omega) (by omega),List.drop_zero,Nat.zero_add,show ((0:Nat):Int)=0 from rfl]
   have hle:=dropWhile_take isBlank (c::r)
   rw [sub_take (by omega),Option.bind_some,take_takeWhile]
   unfold firstS
   rw [if_pos (by rw [List.takeWhile_cons,hb]; simp)]
  | false =>
   have htk:(c::r).takeWhile isBlank=[]:=by rw [List.takeWhile_cons,hb]; rfl
   rw [if_neg (by simp)]
   have main:¬ (c::r).take 2=[47,42]→Z2x (c::r) c false=some (firstS (c::r)):=by
    intro hp
    unfold firstS
    rw [if_neg (by simp [htk]),if_neg hp]
    show _=some (tokS c r)
    unfold Z2x tokS
    rw [if_neg (by simp),show decide ((c.toNat:Int)=39)=decide (c=39) from byte_is c 39 (by omega),show decide ((c.toNat:Int)=34)=decide (c=34) from byte_is c 34 (by omega),show decide ((c.toNat:Int)=35)=decide (c=35) from byte_is c 35 (by omega)]
    by_cases cq:c=39∨c=34
    ·rw [if_pos (by simpa using cq),if_pos cq,textAt_eq (q:=c) rfl (by rcases cq with rfl | rfl <;> decide) hl,Option.bind_some]
     rfl
    ·rw [if_neg (by simpa using cq),if_neg cq,NumberAt_eq (by omega),Option.bind_some]
     have hn:=numS_le (c::r)
     by_cases hnum:0<(numS (c::r)).2
     ·have n35:¬ (c=35∧hashB r=true):=fun h=>num_not c r (.inl h.1) hnum
      have n64:¬ (c=64∧beginsS r=true):=fun h=>num_not c r (.inr h.1) hnum
      have e:((numS (c::r)).2.toNat:Int)=(numS (c::r)).2:=by omega
      rw [if_pos (by simpa using hnum),if_neg n35,if_neg n64,if_pos hnum,← e,numAt_eq hl (by omega),Option.bind_some]
      rfl
     ·rw [if_neg (by simpa using hnum)]
      have j6:∀ v,Z42 (c::r) c v=some (if v=true then namedT 3 (c::r) else if beginsS (c::r) then nameT (c::r) else ⟨oneS c,[c],[],0⟩):=by
       intro v
       have h1:=said_eq (s:=c::r) (i:=1) hl (by simp)
       have h2:=nameS_le _ r rfl
       have hb0:=rbegins_eq (c::r) 0 (by omega)
       rw [show ((1:Nat):Int)=1 from rfl,show (c::r).drop 1=r from rfl] at h1
       rw [show ((0:Nat):Int)=0 from rfl,List.drop_zero] at hb0
       unfold Z42
       cases v with
       | true =>
        rw [if_pos rfl,if_pos rfl,h1,Option.bind_some,sub_take (by simp only [List.length_cons]; omega),Option.bind_some]
        rfl
       | false =>
        rw [if_neg nf,if_neg nf,hb0,Option.bind_some]
        cases hb:beginsS (c::r) with
        | true=>rw [if_pos rfl,if_pos rfl]; exact rnameT hl
        | false=>rw [if_neg nf,if_neg nf]; exact rj7 c r
      have j5:∀ v,Z2w (c::r) c v=some (if v=true then namedT 4 (c::r) else if c=64∧beginsS r=true then namedT 3 (c::r) else if beginsS (c::r) then nameT (c::r) else ⟨oneS c,[c],[],0⟩):=by
       intro v
       have h1:=said_eq (s:=c::r) (i:=1) hl (by simp)
       have h2:=nameS_le _ r rfl
       have hb1:=rbegins_eq (c::r) 1 (by omega)
       rw [show ((1:Nat):Int)=1 from rfl,show (c::r).drop 1=r from rfl] at h1 hb1
       unfold Z2w
       cases v with
       | true =>
        rw [if_pos rfl,if_pos rfl,h1,Option.bind_some,sub_take (by simp only [List.length_cons]; omega),Option.bind_some]
        rfl
       | false =>
        rw [if_neg nf,if_neg nf,show decide ((c.toNat:Int)=64)=decide (c=64) from byte_is c 64 (by omega)]
        by_cases c64:c=64
        ·rw [if_pos (by simpa using c64),hb1,Option.bind_some,j6]
         simp [c64]
        ·have n64:¬ (c=64∧beginsS r=true):=fun h=>c64 h.1
         rw [if_neg (by simpa using c64),j6,if_neg nf,if_neg n64]
      by_cases c35:c=35
      ·have hsg:=rat_eq (c::r) 1
       have hes:=rescape_eq (c::r) 1 (by omega)
       rw [show ((1:Nat):Int)=1 from rfl] at hsg hes
       rw [if_pos (by simpa using c35),hsg,Option.bind_some,rnamed_eq,hes,Option.bind_some,j5,j5]
       have key:∀ b:Bool,(isSign ((c::r).getD 1 0)&&decide (1<((c::r).length:Int)))=b→hashB r=(b||escS r):=by
        intro b hb
        subst hb
        cases r with
        | nil=>rfl
        | cons d r2 =>
         have:decide (1<((c::d::r2).length:Int))=true:=by simp; omega
         rw [this]
         show (isSign d||escS (d::r2))=((isSign d&&true)||escS (d::r2))
         rw [Bool.and_true]
       cases hcc:(isSign ((c::r).getD 1 0)&&decide (1<((c::r).length:Int))) with
       | true =>
        have:=key true hcc
        rw [if_pos rfl,if_pos rfl,if_pos ⟨c35,by rw [this]; rfl⟩]
       | false =>
        have:=key false hcc
        rw [Bool.false_or] at this
        rw [if_neg nf,show (c::r).drop 1=r from rfl]
        cases he:escS r with
        | true=>rw [if_pos rfl,if_pos ⟨c35,by rw [this,he]⟩]
        | false =>
         have n35:¬ (c=35∧hashB r=true):=fun h=>by have:=h.2; rw [‹hashB r=escS r›,he] at this; cases this
         rw [if_neg nf,if_neg n35,if_neg hnum]
      ·have n35:¬ (c=35∧hashB r=true):=fun h=>c35 h.1
       rw [if_neg (by simpa using c35),j5,if_neg nf,if_neg n35,if_neg hnum]
   rw [show decide ((c.toNat:Int)=47)=decide (c=47) from byte_is c 47 (by omega)]
   by_cases c47:c=47
   ·have h1:=rat_eq (c::r) 1
    rw [show ((1:Nat):Int)=1 from rfl] at h1
    rw [if_pos (by simpa using c47),h1,Option.bind_some]
    cases r with
    | nil=>exact main (by simp)
    | cons d r2 =>
     rw [show (c::d::r2).getD 1 0=d from rfl,show decide ((d.toNat:Int)=42)=decide (d=42) from byte_is d 42 (by omega)]
     by_cases d42:d=42
     ·rw [show decide (d=42)=true by simpa using d42]
      unfold Z2x firstS
      rw [if_pos rfl,noteAt_eq hl (by simp),Option.bind_some,if_neg (by simp [htk]),if_pos (by simp [c47,d42])]
     ·rw [show decide (d=42)=false by simpa using d42]
      exact main (by simp [d42])
   ·rw [if_neg (by simpa using c47)]
    exact main (by cases r <;> simp [c47])
theorem tok_l0:∀(N:Nat) (s:List UInt8) (out:List TSToken),s.length<N→s.length<4294967281→out.length+s.length<4294967281 →
  Z1x (fun out=>some out) N s out=some (out ++ cutS s)
 | 0,s,out,hN,hl,ho=>by omega
 | N+1,s,out,hN,hl,ho=>by
  rw [Z1x]
  by_cases hs:s=[]
  ·subst hs
   rw [if_neg (by simp)]
   simp [cutS,cutF]
  ·obtain ⟨h1,h2⟩:=firstS_raw hs
   have hp:=List.length_pos_iff.2 hs
   rw [if_pos (by simp only [decide_eq_true_eq]; omega),TokenAt_eq hs (by omega),Option.bind_some,appq (by simp; omega),Option.bind_some,sub_drop h2,Option.bind_some,tok_l0 N _ _ (by rw [List.length_drop]; omega) (by rw [List.length_drop]; omega) (by rw [List.length_append,List.length_drop]; simp; omega)]
   congr 1
   rw [List.append_assoc]
   congr 1
   unfold cutS
   have hlen:s.length=(s.length - 1)+1:=by omega
   rw [hlen,cutF,if_neg hs,cutF_more (s.length - 1) (s.drop (firstS s).Raw.length).length _ (by rw [List.length_drop]; omega) (Nat.le_refl _)]
   rfl
theorem Tokens_eq {s:List UInt8}(hl:s.length<4294967281):Z5a s=some (cutS s):=by
 unfold Z5a
 exact limF_of (s.length+1) fun k hk=>by rw [tok_l0 k s [] (by omega) hl (by simpa using hl)]; rfl
end Go.Proofs.YtnfgjdbajefoiaaGreatDoorBv
/- Selectors: names, letters, one test, in the program and in the document. No program is in sight. -/
namespace Go.Proofs.YtnfgjdbajefoiaaGreatDoorBv
open Go
set_option linter.unusedSimpArgs false
set_option linter.unusedVariables false
theorem slower_l0 (s:List UInt8) (hl:s.length<140737488355328):∀(N i:Nat),s.length - i<N→i≤s.length →
  Z1g (fun b=>some (byts b)) N (ints ((s.take i).map lowB ++ s.drop i)) (s.length:Int) (i:Int)=some (s.map lowB)
 | 0,i,hN,hi=>by omega
 | N+1,i,hN,hi=>by
  rw [Z1g]
  by_cases h:i<s.length
  ·have hlen:((s.take i).map lowB).length=i:=by simp; omega
   have hg:((s.take i).map lowB ++ s.drop i)[i]? = some s[i]:=by
    rw [List.getElem?_append_right (by omega),hlen]
    simp [h]
   have ih:=slower_l0 s hl N (i+1) (by omega) (by omega)
   have eset:((s.take i).map lowB ++ s.drop i).set i (lowB s[i])=(s.take (i+1)).map lowB ++ s.drop (i+1):=by
    rw [List.set_append_right _ _ (by omega),hlen,List.drop_eq_getElem_cons h,Nat.sub_self,List.set_cons_zero,List.take_add_one,List.getElem?_eq_getElem h]
    simp only [Option.toList_some,List.map_append,List.map_cons,List.map_nil,List.append_assoc,List.cons_append,List.nil_append]
   rw [if_pos (by simp only [decide_eq_true_eq]; omega),at_nat,ints_get,hg,Option.map_some,Option.bind_some]
   unfold Z4h
   rw [wi_id (by omega) (by omega),show (i:Int)+1=((i+1:Nat):Int) by omega]
   have hint:∀ c:UInt8,(ints ((s.take i).map lowB ++ s.drop i)).set i (c.toNat:Int)=ints (((s.take i).map lowB ++ s.drop i).set i c):=by
    intro c
    unfold ints
    rw [List.map_set]
   by_cases hc:65≤s[i].toNat∧s[i].toNat≤90
   ·have e:lowB s[i]=s[i]+32:=by unfold lowB; rw [if_pos hc]
    have e2:wr .u8 ((s[i].toNat:Int)+32)=((lowB s[i]).toNat:Int):=by
     rw [e,wr_u8,UInt8.toNat_add]
     have:(32:UInt8).toNat=32:=rfl
     omega
    rw [if_pos (by simp; omega),Option.bind_some,e2,show ((i:Int)).toNat=i from rfl,hint,eset]
    exact ih
   ·have e:lowB s[i]=s[i]:=by unfold lowB; rw [if_neg hc]
    rw [if_neg (by simp; omega)]
    have:(s.take i).map lowB ++ s.drop i=(s.take (i+1)).map lowB ++ s.drop (i+1):=by
     rw [← eset,e]
     exact (set_self hg).symm
    rw [this]
    exact ih
  ·have:i=s.length:=by omega
   subst this
   rw [if_neg (by simp)]
   simp [byts_ints]
theorem slower_eq {s:List UInt8}(hl:s.length<140737488355328):Z1q s=some (s.map lowB):=by
 unfold Z1q
 refine limF_of (s.length+1) fun k hk=>?_
 have:=slower_l0 s hl k 0 (by omega) (by omega)
 rw [ints_length]
 simpa using this
theorem name_same {s:List UInt8}(h:s.length≤4000000):∃ b,Z3l s=some b∧Z2z s=some b:=by
 unfold Z3l Z2z
 rw [cut_eq (by omega),Tokens_eq (by omega)]
 simp only [Option.bind_some]
 generalize cutS s=l
 match l with
 | []=>exact ⟨false,rfl,rfl⟩
 | [t] =>
  have a0:at? [t] 0=some t:=rfl
  unfold Z2n Z2y
  simp only [a0,Option.bind_some,List.length_cons,List.length_nil]
  refine ⟨decide (t.Kind=1)&&(decide (t.Raw=s)&&decide (t.Value=s)),?_,?_⟩
  ·by_cases h1:t.Kind=1 <;> by_cases h2:t.Raw=s <;> by_cases h3:t.Value=s <;> simp [h1,h2,h3]
  ·by_cases h1:t.Kind=1 <;> by_cases h2:t.Raw=s <;> by_cases h3:t.Value=s <;> simp [h1,h2,h3]
 | a::b::r=>exact ⟨false,by rw [if_neg (by simp; omega)]; rfl,by rw [if_neg (by simp; omega)]; rfl⟩
theorem hasByte_eq (s:List UInt8) (c:Int) (hs:s.length≤1000):Z1t s c=some (s.any fun b=>decide ((b.toNat:Int)=c)):=by
 unfold Z1t
 refine Or.elim (rounds_lim (σ:=Unit) (fun m _ i=>Zj s c (fun _=>some false) m i) (fun _=>some false) s.length
  (fun i _=>(s.any fun b=>decide ((b.toNat:Int)=c))=((s.drop i).any fun b=>decide ((b.toNat:Int)=c))) (fun v=>v=some (s.any fun b=>decide ((b.toNat:Int)=c))) () (by simp) ?_ ?_) ?_ ?_
 ·intro m _ _
  show Zj s c (fun _=>some false) (m+1) (s.length:Int)=_
  rw [Zj,if_neg (by simp)]
 ·intro _ i hi hI
  have hd:s.drop i=s[i]::s.drop (i+1):=List.drop_eq_getElem_cons hi
  rw [hd,List.any_cons] at hI
  by_cases h:(s[i].toNat:Int)=c
  ·right
   refine ⟨some true,by rw [hI,decide_eq_true h,Bool.true_or],fun m=>?_⟩
   show Zj s c (fun _=>some false) (m+1) (i:Int)=_
   rw [Zj,if_pos (lt_pos hi),at_some hi,Option.bind_some,if_pos (by simpa using h)]
  ·left
   refine ⟨(),by rw [hI,decide_eq_false h,Bool.false_or],fun m=>?_⟩
   show Zj s c (fun _=>some false) (m+1) (i:Int)=Zj s c (fun _=>some false) m _
   rw [Zj,if_pos (lt_pos hi),at_some hi,Option.bind_some,if_neg (by simpa using h),wi_next hi (by omega)]
 ·rintro ⟨_,hI,h⟩
  rw [List.drop_length] at hI
  rw [h,hI]
  rfl
 ·rintro ⟨v,rfl,h⟩
  exact h
theorem ops_same (c:Int) (h0:0≤c) (h1:c≤255):∃ r,Z2r [61,126,124,94,36,42] c=some r∧Z1t [61,126,124,94,36,42] c=some (!decide (r<0)):=by
 have:∀ n:Fin 256,(([61,126,124,94,36,42]:List UInt8).any fun b=>decide ((b.toNat:Int)=((n.val:Nat):Int)))=(!decide (Lib.indexByte [61,126,124,94,36,42] n.val.toUInt8<0)):=by decide +kernel
 have h:=this ⟨c.toNat,by omega⟩
 refine ⟨_,rfl,?_⟩
 rw [hasByte_eq _ _ (by simp)]
 have e:((c.toNat:Nat):Int)=c:=by omega
 rw [← h]
 simp only [e]
theorem joins_same (c:Int) (h0:0≤c) (h1:c≤255):∃ r,Z2r [32,62,43,126] c=some r∧Z1t [32,62,43,126] c=some (!decide (r<0)):=by
 have:∀ n:Fin 256,(([32,62,43,126]:List UInt8).any fun b=>decide ((b.toNat:Int)=((n.val:Nat):Int)))=(!decide (Lib.indexByte [32,62,43,126] n.val.toUInt8<0)):=by decide +kernel
 have h:=this ⟨c.toNat,by omega⟩
 refine ⟨_,rfl,?_⟩
 rw [hasByte_eq _ _ (by simp)]
 have e:((c.toNat:Nat):Int)=c:=by omega
 rw [← h]
 simp only [e]
theorem j3_same (t:TSTest) (rp rr:List Raw→Option Bool) (hr:t.Kind=10∨t.Kind=11→∃ b,rp t.Subs=some b∧rr t.Subs=some b) (v:Bool):∃ b,Z1j t rp v=some b∧Z2e t rr v=some b:=by
 unfold Z1j Z2e
 cases v with
 | true=>exact ⟨false,rfl,rfl⟩
 | false =>
  simp only [Bool.false_eq_true,if_false]
  have hc:((((!(Z1i t))&&((!decide (t.A=0))||(!decide (t.B=0))))||(decide ((mn t.A t.B)<(-1000))))||(decide (1000<(mx t.A t.B)))) =
    ((((((!((decide (t.Kind=8))||(decide (t.Kind=9))))&&((!decide (t.A=0))||(!decide (t.B=0))))||(decide (t.A<(-1000))))||(decide (1000<t.A)))||(decide (t.B<(-1000))))||(decide (1000<t.B))):=by
   unfold Z1i mn mx
   generalize ((!((decide (t.Kind=8))||(decide (t.Kind=9))))&&((!decide (t.A=0))||(!decide (t.B=0))))=x
   rw [Bool.eq_iff_iff]
   simp only [Bool.or_eq_true,decide_eq_true_eq]
   cases x
   ·simp only [Bool.false_eq_true,false_or]
    repeat' split
    all_goals omega
   ·simp
  rw [hc]
  split
  ·exact ⟨false,rfl,rfl⟩
  ·unfold Z3p
   by_cases hk:t.Kind=10∨t.Kind=11
   ·obtain ⟨b,b1,b2⟩:=hr hk
    rw [if_pos (by simpa using hk),if_pos (by simpa using hk),b1,b2]
    exact ⟨b,rfl,rfl⟩
   ·rw [if_neg (by simpa using hk),if_neg (by simpa using hk)]
    exact ⟨_,rfl,rfl⟩
theorem j2_same (t:TSTest) (rp rr:List Raw→Option Bool) (hr:t.Kind=10∨t.Kind=11→∃ b,rp t.Subs=some b∧rr t.Subs=some b) (ho:0≤t.Op∧t.Op≤255) (v:Bool):∃ b,Z1s t rp v=some b∧Z43 t rr v=some b:=by
 unfold Z1s Z43
 cases v with
 | true=>exact ⟨false,rfl,rfl⟩
 | false =>
  simp only [Bool.false_eq_true,if_false]
  by_cases h0:t.Op=0
  ·by_cases hv:t.Value=[]
   ·simp only [h0,hv,decide_true,Bool.not_true,Bool.and_false,Bool.false_eq_true,if_false]
    exact j3_same t rp rr hr false
   ·simp only [h0,hv,decide_true,decide_false,Bool.not_true,Bool.not_false,Bool.and_self,Bool.false_eq_true,if_false,if_true]
    exact j3_same t rp rr hr true
  ·by_cases h5:t.Kind=5
   ·obtain ⟨r,r1,r2⟩:=ops_same t.Op ho.1 ho.2
    simp only [h0,h5,decide_true,decide_false,Bool.not_true,Bool.not_false,Bool.false_and,Bool.false_eq_true,if_false,if_true,r1,r2,Option.bind_some,Bool.or_false,Bool.not_not]
    exact j3_same t rp rr hr _
   ·simp only [h0,h5,decide_false,Bool.not_false,Bool.false_and,Bool.false_eq_true,if_false,if_true]
    exact j3_same t rp rr hr true
theorem j1_same (t:TSTest) (rp rr:List Raw→Option Bool) (hr:t.Kind=10∨t.Kind=11→∃ b,rp t.Subs=some b∧rr t.Subs=some b) (ho:0≤t.Op∧t.Op≤255) (hn:t.Name.length≤4000000) (v:Bool):∃ b,Z11 t rp v=some b∧Z2f t rr v=some b:=by
 unfold Z11 Z2f
 cases v with
 | true=>exact ⟨false,rfl,rfl⟩
 | false =>
  simp only [Bool.false_eq_true,if_false]
  rw [slower_eq (by omega),rlower_eq (by omega)]
  have hc:decide (t.Name=t.Name.map lowB)=decide (t.Name.map lowB=t.Name):=by
   rw [Bool.eq_iff_iff,decide_eq_true_eq,decide_eq_true_eq]; exact eq_comm
  split
  ·simp only [Option.bind_some,hc]
   exact j2_same t rp rr hr ho _
  ·exact j2_same t rp rr hr ho _
theorem test_same (t:TSTest) (rp rr:List Raw→Option Bool) (at_:Int) (hr:t.Kind=10∨t.Kind=11→∃ b,rp t.Subs=some b∧rr t.Subs=some b) (ho:0≤t.Op∧t.Op≤255) (hn:t.Name.length≤4000000):∃ b,Zh rp t at_=some b∧Z1z rr t at_=some b:=by
 obtain ⟨nb,n1,n2⟩:=name_same hn
 unfold Zh Z1z letIn
 rw [n1,n2]
 have hk:((((decide (t.Kind=2))||(decide (t.Kind=3)))||(decide (t.Kind=4)))||(decide (t.Kind=5)))=((decide (2≤t.Kind))&&(decide (t.Kind≤5))):=by
  rw [Bool.eq_iff_iff]; simp only [Bool.or_eq_true,Bool.and_eq_true,decide_eq_true_eq]; omega
 rw [hk]
 have hj:=fun v=>j1_same t rp rr hr ho hn v
 have hf:∀ v,v=true→Z11 t rp v=some false∧Z2f t rr v=some false:=by rintro v rfl; exact ⟨rfl,rfl⟩
 by_cases k1:t.Kind<1∨11<t.Kind
 ·rw [if_pos (by simp only [Bool.or_eq_true,decide_eq_true_eq]; exact .inl (.inl k1)),if_pos (by simpa using k1)]
  exact ⟨false,rfl,rfl⟩
 have k1' : ¬ (decide (t.Kind<1)||decide (11<t.Kind))=true:=by simpa using k1
 rw [if_neg k1']
 by_cases k2:0<at_∧(t.Kind=1∨t.Kind=2)
 ·rw [if_pos (by simp only [Bool.or_eq_true,Bool.and_eq_true,decide_eq_true_eq]; exact .inl (.inr ⟨by omega,k2.1⟩)),if_pos (by simpa using k2)]
  exact ⟨false,rfl,rfl⟩
 rw [if_neg (show ¬ ((decide (0<at_))&&((decide (t.Kind=1))||(decide (t.Kind=2))))=true by simpa using k2)]
 have k2' : ¬ (t.Kind≤2∧0<at_):=by omega
 generalize hkk:((decide (2≤t.Kind))&&(decide (t.Kind≤5)))=kk
 have c1:((((decide (t.Kind<1))||(decide (11<t.Kind)))||((decide (t.Kind≤2))&&(decide (0<at_))))||(!((kk == (!decide (t.Name=[])))&&true)))=!(kk == (!decide (t.Name=[]))):=by
  have e1:(decide (t.Kind<1)||decide (11<t.Kind))=false:=by simpa using k1'
  have e2:(decide (t.Kind≤2)&&decide (0<at_))=false:=by
   rw [Bool.eq_false_iff]; simp only [ne_eq,Bool.and_eq_true,decide_eq_true_eq]; exact k2'
  rw [e1,e2]; simp
 rw [c1]
 cases kk with
 | true =>
  by_cases hN:t.Name=[]
  ·-- a name that is empty is none
   have hnb:nb=false:=by
    rw [hN] at n2
    have:Z2z []=some false:=by
     unfold Z2z
     rw [Tokens_eq (by simp)]
     decide
    rw [this] at n2
    exact (Option.some.inj n2).symm
   subst hnb
   rw [if_pos (by simp [hN])]
   simp only [Bool.not_true,Bool.false_and,Bool.false_eq_true,if_false,if_true,Option.bind_some,Bool.not_false]
   exact ⟨false,rfl,rfl⟩
  ·rw [if_neg (by simp [hN])]
   simp only [Bool.not_true,Bool.false_and,Bool.false_eq_true,if_false,if_true,Option.bind_some]
   exact hj _
 | false =>
  by_cases hN:t.Name=[]
  ·rw [if_neg (by simp [hN])]
   simp only [hN,decide_true,Bool.not_true,Bool.not_false,Bool.and_false,Bool.false_eq_true,if_false]
   exact hj _
  ·rw [if_pos (by simp [hN])]
   simp only [hN,decide_false,Bool.not_false,Bool.and_self,if_true]
   exact ⟨false,rfl,rfl⟩
end Go.Proofs.YtnfgjdbajefoiaaGreatDoorBv
/- Selectors: whether paths are right, in the program and in the document. No program is in sight. -/
namespace Go.Proofs.YtnfgjdbajefoiaaGreatDoorBv
open Go
set_option linter.unusedSimpArgs false
set_option linter.unusedVariables false
theorem all_rounds (F:Nat→Int→Option Bool) (K:Option Bool) (n:Nat) (G:Nat→Prop) (stop:∀ m,F (m+1) (n:Int)=K)
  (step:∀ i,i<n→(G i∧∀ m,F (m+1) (i:Int)=F m ((i+1:Nat):Int))∨(¬ G i∧∀ m,F (m+1) (i:Int)=some false)) (hn:n≤4611686018427387903:=by omega) :
  ((∀ i,i<n→G i)∧limF (fun k=>F k 0)=K)∨(¬ (∀ i,i<n→G i)∧limF (fun k=>F k 0)=some false):=by
 refine Or.elim (rounds_lim (σ:=Unit) (fun m _ i=>F m i) (fun _=>K) n (fun i _=>∀ j,j<i→G j) (fun v=>¬ (∀ i,i<n→G i)∧v=some false) () (fun j hj=>absurd hj (Nat.not_lt_zero _)) ?_ ?_) ?_ ?_
 ·intro m _ _; exact stop m
 ·intro _ i hi hI
  rcases step i hi with ⟨h1,h2⟩ | ⟨h1,h2⟩
  ·left
   refine ⟨(),fun j hj=>?_,h2⟩
   rcases Nat.lt_succ_iff_lt_or_eq.1 hj with h | rfl
   ·exact hI j h
   ·exact h1
  ·exact .inr ⟨_,⟨fun h=>h1 (h i hi),rfl⟩,h2⟩
 ·rintro ⟨_,hI,h⟩; exact .inl ⟨hI,h⟩
 ·rintro ⟨v,⟨h1,rfl⟩,h⟩; exact .inr ⟨h1,h⟩
def okR (l:List Raw):Prop:=∀ y,y ∈ l→∃ D,Shape Tryz.prog D 30 y.c
def bl (l:List Raw):Nat:=bulkE (l.map eRaw)
theorem rkids_of:∀(S:List Raw),okR S→∃ xs:List TSPath,S.map (·.c)=xs.map e_TSPath∧∀ x,x ∈ xs→ok30 x
 | [],_=>⟨[],rfl,fun x h=>by cases h⟩
 | y::r,h=>by
  obtain ⟨xs,e1,e2⟩:=rkids_of r fun z hz=>h z (List.mem_cons_of_mem _ hz)
  obtain ⟨D,hD⟩:=h y (List.mem_cons_self ..)
  obtain ⟨x,f1,f2⟩:=raw30 hD
  refine ⟨x::xs,by rw [List.map_cons,List.map_cons,e1,f1],fun z hz=>?_⟩
  rcases List.mem_cons.1 hz with rfl | hz
  ·exact f2
  ·exact e2 z hz
def okL (l:List Raw):Prop:=∃ xs:List TSPath,l.map (·.c)=xs.map e_TSPath∧∀ x,x ∈ xs→ok30 x
theorem pkids_of (S:List Raw) (h:okL S):∃ xs:List TSPath,S.map (·.c)=xs.map e_TSPath∧∀ x,x ∈ xs→ok30 x:=h
theorem okL_of {l:List Raw}(h:okR l):okL l:=rkids_of l h
theorem pkid_at {l:List Raw}{xs:List TSPath}(e:l.map (·.c)=xs.map e_TSPath) {i:Nat}(hi:i<xs.length):∃ r,at? l (i:Int)=some r∧Z3 r.c=some xs[i]:=by
 have hl:l.length=xs.length:=by have:=congrArg List.length e; simpa using this
 refine ⟨l[i],at_some (by omega),?_⟩
 have h1:(l.map (·.c))[i]? = (xs.map e_TSPath)[i]?:=by rw [e]
 rw [List.getElem?_map,List.getElem?_map,List.getElem?_eq_getElem hi,List.getElem?_eq_getElem (show i<l.length by omega)] at h1
 simp only [Option.map_some,Option.some.injEq] at h1
 rw [h1]
 exact Z8a _
theorem len_bulk:∀{l:List (List Cel)},(∀ y,y ∈ l→1≤bulkL y)→l.length≤bulkE l
 | [],_=>by simp [bulkE]
 | a::r,h=>by
  simp only [bulkE,List.length_cons]
  have:=h a (List.mem_cons_self ..)
  have:=len_bulk fun y hy=>h y (List.mem_cons_of_mem _ hy)
  omega
theorem bulk_test (t:TSTest):bulkL (e_TSTest t)=7+t.Name.length+t.Value.length+bl t.Subs:=by
 show bulkL [cI t.Kind,.str t.Name,.val (.int .u8 t.Op),.str t.Value,cI t.A,cI t.B,.ro false 2 (t.Subs.map eRaw)]=_
 unfold bl
 simp only [bulkL,cI,bulkC]
 omega
theorem bulk_step (s:List TSTest):bulkL (eSl 7 e_TSTest s)=bulkE (s.map e_TSTest)+1:=by
 show bulkL [.ro false 7 (s.map e_TSTest)]=_
 simp only [bulkL,bulkC]
theorem bulk_path (p:TSPath):bulkL (e_TSPath p)=bulkE (p.Steps.map (eSl 7 e_TSTest))+bulkE (p.Joins.map (eK .u8))+2:=by
 show bulkL [.ro false 1 (p.Steps.map (eSl 7 e_TSTest)),.ro false 1 (p.Joins.map (eK .u8))]=_
 simp only [bulkL,bulkC]
 omega
structure Within (l:List Raw) (xs:List TSPath):Prop where
 len:xs.length≤bl l
 steps:∀ p,p ∈ xs→p.Steps.length≤bl l
 joins:∀ p,p ∈ xs→p.Joins.length≤bl l
 step:∀ p,p ∈ xs→∀ s,s ∈ p.Steps→s.length≤bl l
 test:∀ p,p ∈ xs→∀ s,s ∈ p.Steps→∀ t,t ∈ s→bl t.Subs<bl l∧t.Name.length≤bl l
theorem within_of {l:List Raw}{xs:List TSPath}(e:l.map (·.c)=xs.map e_TSPath):Within l xs:=by
 have hb:bl l=bulkE (xs.map e_TSPath):=by
  have e' : l.map eRaw=xs.map e_TSPath:=e
  unfold bl; rw [e']
 have hp:∀ p,p ∈ xs→bulkL (e_TSPath p)≤bl l:=fun p h=>by rw [hb]; exact bulk_in (List.mem_map_of_mem h)
 have hs:∀ p,p ∈ xs→∀ s,s ∈ p.Steps→bulkE (s.map e_TSTest)+1≤bl l:=fun p h s hs=>by
  have h1:=bulk_in (List.mem_map_of_mem (f:=eSl 7 e_TSTest) hs)
  rw [bulk_step] at h1
  have h2:=hp p h
  rw [bulk_path] at h2
  omega
 refine ⟨?_,fun p h=>?_,fun p h=>?_,fun p h s hs' => ?_,fun p h s hs' t ht=>?_⟩
 ·have h1:=len_bulk (l:=xs.map e_TSPath) fun y hy=>by
   obtain ⟨p,_,rfl⟩:=List.mem_map.1 hy
   rw [bulk_path]; omega
  rw [List.length_map] at h1
  omega
 ·have h1:=len_bulk (l:=p.Steps.map (eSl 7 e_TSTest)) fun y hy=>by
   obtain ⟨s,_,rfl⟩:=List.mem_map.1 hy
   rw [bulk_step]; omega
  rw [List.length_map] at h1
  have h2:=hp p h
  rw [bulk_path] at h2
  omega
 ·have h1:=len_bulk (l:=p.Joins.map (eK .u8)) fun y hy=>by
   obtain ⟨s,_,rfl⟩:=List.mem_map.1 hy
   exact Nat.le_refl 1
  rw [List.length_map] at h1
  have h2:=hp p h
  rw [bulk_path] at h2
  omega
 ·have h1:=len_bulk (l:=s.map e_TSTest) fun y hy=>by
   obtain ⟨t,_,rfl⟩:=List.mem_map.1 hy
   rw [bulk_test]; omega
  rw [List.length_map] at h1
  have:=hs p h s hs'
  omega
 ·have h1:=bulk_in (List.mem_map_of_mem (f:=e_TSTest) ht)
  rw [bulk_test] at h1
  have:=hs p h s hs'
  omega
theorem test_congr (t:TSTest) (rp rp' : List Raw→Option Bool) (at_:Int) (h:t.Kind=10∨t.Kind=11→rp t.Subs=rp' t.Subs):Zh rp t at_=Zh rp' t at_:=by
 have e3:Z1j t rp=Z1j t rp' := by
  funext v
  unfold Z1j Z3p
  by_cases hk:t.Kind=10∨t.Kind=11
  ·rw [h hk]
  ·rw [if_neg (show ¬ ((decide (t.Kind=10))||(decide (t.Kind=11)))=true by simpa using hk),if_neg (show ¬ ((decide (t.Kind=10))||(decide (t.Kind=11)))=true by simpa using hk)]
 have e2:Z1s t rp=Z1s t rp' := by
  funext v
  unfold Z1s
  rw [e3]
 have e1:Z11 t rp=Z11 t rp' := by
  funext v
  unfold Z11
  rw [e2]
 unfold Zh
 rw [e1]
theorem ok_u8 {x:Int}(h:(Lit.int .u8 x).wf=true):0≤x∧x≤255:=by
 simp only [Lit.wf,IntKind.min,IntKind.max,IntKind.bits,IntKind.signed] at h
 simp at h
 omega
theorem op_in {t:TSTest}(h:ok41 t):0≤t.Op∧t.Op≤255:=ok_u8 h.2.2.1
noncomputable def jo (c:Int):Bool:=!decide (((Z2r [32,62,43,126] c).getD 0)<0)
theorem jo_eq {c:Int}(h:ok5 c):∃ r,Z2r [32,62,43,126] c=some r∧decide (r<0)=!jo c∧Z1t [32,62,43,126] c=some (jo c):=by
 obtain ⟨h0,h1⟩:=ok_u8 h
 obtain ⟨r,r1,r2⟩:=joins_same c h0 h1
 refine ⟨r,r1,?_,?_⟩
 ·unfold jo; rw [r1]; simp
 ·unfold jo; rw [r1,r2]; rfl
/-! ### the loops: 'tv t i' is what a test comes to -/
def stepG (tv:TSTest→Nat→Bool) (s:List TSTest):Prop:=∀ i,i<s.length→∃ h:i<s.length,tv s[i] i=true
theorem p14 (s:List TSTest) (rp:List Raw→Option Bool) (l:List Raw) (v13:Int) (p:TSPath) (v34:Int) (K:Unit→Option Bool) (tv:TSTest→Nat→Bool) (hs:s.length≤1048576) (ht:∀ t,t ∈ s→∀ i,Zh rp t ((i:Nat):Int)=some (tv t i)) :
  (stepG tv s∧limF (fun kk=>Zb s rp l v13 p v34 K kk 0)=K ())∨(¬ stepG tv s∧limF (fun kk=>Zb s rp l v13 p v34 K kk 0)=some false):=by
 refine all_rounds (fun m i=>Zb s rp l v13 p v34 K m i) (K ()) s.length (fun i=>∃ h:i<s.length,tv s[i] i=true) (fun m=>?_) (fun i hi=>?_)
 ·show Zb s rp l v13 p v34 K (m+1) (s.length:Int)=_
  rw [Zb,if_neg (by simp)]
 ·have e:=ht _ (List.getElem_mem hi) i
  by_cases h:tv s[i] i=true
  ·refine .inl ⟨⟨hi,h⟩,fun m=>?_⟩
   show Zb s rp l v13 p v34 K (m+1) (i:Int)=Zb s rp l v13 p v34 K m _
   rw [Zb,if_pos (lt_pos hi),at_some hi,Option.bind_some,e,Option.bind_some,if_neg (by simp [h]),wi_next hi (by omega)]
  ·refine .inr ⟨fun ⟨_,h'⟩=>h h',fun m=>?_⟩
   show Zb s rp l v13 p v34 K (m+1) (i:Int)=_
   rw [Zb,if_pos (lt_pos hi),at_some hi,Option.bind_some,e,Option.bind_some,if_pos (by simp [h])]
theorem r12 (p:TSPath) (k:Nat) (hk:k<p.Steps.length) (rr:List Raw→Option Bool) (l:List Raw) (i0:Int) (K:Unit→Option Bool) (tv:TSTest→Nat→Bool) (hs:p.Steps[k].length≤1048576) (ht:∀ t,t ∈ p.Steps[k]→∀ i,Z1z rr t ((i:Nat):Int)=some (tv t i)) :
  (stepG tv p.Steps[k]∧limF (fun kk=>Ze p (k:Int) rr l i0 K kk 0)=K ())∨(¬ stepG tv p.Steps[k]∧limF (fun kk=>Ze p (k:Int) rr l i0 K kk 0)=some false):=by
 refine all_rounds (fun m i=>Ze p (k:Int) rr l i0 K m i) (K ()) p.Steps[k].length (fun i=>∃ h:i<p.Steps[k].length,tv p.Steps[k][i] i=true) (fun m=>?_) (fun i hi=>?_)
 ·show Ze p (k:Int) rr l i0 K (m+1) (p.Steps[k].length:Int)=_
  rw [Ze,at_some hk,Option.bind_some,if_neg (by simp)]
 ·have e:=ht _ (List.getElem_mem hi) i
  by_cases h:tv p.Steps[k][i] i=true
  ·refine .inl ⟨⟨hi,h⟩,fun m=>?_⟩
   show Ze p (k:Int) rr l i0 K (m+1) (i:Int)=Ze p (k:Int) rr l i0 K m _
   rw [Ze,at_some hk,Option.bind_some,if_pos (lt_pos hi),Option.bind_some,at_some hi,Option.bind_some,e,Option.bind_some,if_neg (by simp [h]),wi_next hi (by omega)]
  ·refine .inr ⟨fun ⟨_,h'⟩=>h h',fun m=>?_⟩
   show Ze p (k:Int) rr l i0 K (m+1) (i:Int)=_
   rw [Ze,at_some hk,Option.bind_some,if_pos (lt_pos hi),Option.bind_some,at_some hi,Option.bind_some,e,Option.bind_some,if_pos (by simp [h])]
theorem p13 (p:TSPath) (rp:List Raw→Option Bool) (l:List Raw) (v13:Int) (K:Unit→Option Bool) (tv:TSTest→Nat→Bool) (hn:p.Steps.length≤1048576) (hs:∀ s,s ∈ p.Steps→s.length≤1048576) (ht:∀ s,s ∈ p.Steps→∀ t,t ∈ s→∀ i,Zh rp t ((i:Nat):Int)=some (tv t i)) :
  ((∀ k,k<p.Steps.length→∃ h:k<p.Steps.length,stepG tv p.Steps[k]∧p.Steps[k]≠[])∧limF (fun kk=>Z5 p rp l v13 K kk 0)=K ())∨(¬ (∀ k,k<p.Steps.length→∃ h:k<p.Steps.length,stepG tv p.Steps[k]∧p.Steps[k]≠[])∧limF (fun kk=>Z5 p rp l v13 K kk 0)=some false):=by
 refine all_rounds (fun m i=>Z5 p rp l v13 K m i) (K ()) p.Steps.length (fun k=>∃ h:k<p.Steps.length,stepG tv p.Steps[k]∧p.Steps[k]≠[]) (fun m=>?_) (fun k hk=>?_)
 ·show Z5 p rp l v13 K (m+1) (p.Steps.length:Int)=_
  rw [Z5,if_neg (by simp)]
 ·have hm:=List.getElem_mem hk
  have head:∀ m,Z5 p rp l v13 K (m+1) (k:Int)=limF fun kk=>Zb p.Steps[k] rp l v13 p (k:Int) (fun (_:Unit)=>if decide ((p.Steps[k].length:Int)=0) then some false else (Z5 p rp l v13 K m) (wi ((k:Int)+1))) kk 0:=fun m=>by
   rw [Z5,if_pos (lt_pos hk),at_some hk,Option.bind_some]
  have inner:=fun m=>p14 p.Steps[k] rp l v13 p (k:Int) (fun (_:Unit)=>if decide ((p.Steps[k].length:Int)=0) then some false else (Z5 p rp l v13 K m) (wi ((k:Int)+1))) tv (hs _ hm) (ht _ hm)
  by_cases hg:stepG tv p.Steps[k]
  ·by_cases hne:p.Steps[k]=[]
   ·refine .inr ⟨fun ⟨_,h⟩=>h.2 hne,fun m=>?_⟩
    show Z5 p rp l v13 K (m+1) (k:Int)=_
    rcases inner m with ⟨_,h⟩ | ⟨h,_⟩
    ·rw [head,h,if_pos (by simp [hne])]
    ·exact absurd hg h
   ·refine .inl ⟨⟨hk,hg,hne⟩,fun m=>?_⟩
    show Z5 p rp l v13 K (m+1) (k:Int)=Z5 p rp l v13 K m _
    rcases inner m with ⟨_,h⟩ | ⟨h,_⟩
    ·rw [head,h,if_neg (by simpa using hne),wi_next hk (by omega)]
    ·exact absurd hg h
  ·refine .inr ⟨fun ⟨_,h⟩=>hg h.1,fun m=>?_⟩
   show Z5 p rp l v13 K (m+1) (k:Int)=_
   rcases inner m with ⟨h,_⟩ | ⟨_,h⟩
   ·exact absurd h hg
   ·rw [head,h]
theorem p15 (p:TSPath) (l:List Raw) (v13:Int) (K:Unit→Option Bool) (hn:p.Joins.length≤1048576) (ho:∀ c,c ∈ p.Joins→ok5 c) :
  ((∀ j,j<p.Joins.length→∃ h:j<p.Joins.length,jo p.Joins[j]=true)∧limF (fun kk=>Z7 p l v13 K kk 0)=K ())∨(¬ (∀ j,j<p.Joins.length→∃ h:j<p.Joins.length,jo p.Joins[j]=true)∧limF (fun kk=>Z7 p l v13 K kk 0)=some false):=by
 refine all_rounds (fun m i=>Z7 p l v13 K m i) (K ()) p.Joins.length (fun j=>∃ h:j<p.Joins.length,jo p.Joins[j]=true) (fun m=>?_) (fun j hj=>?_)
 ·show Z7 p l v13 K (m+1) (p.Joins.length:Int)=_
  rw [Z7,if_neg (by simp)]
 ·obtain ⟨r,r1,r2,_⟩:=jo_eq (ho _ (List.getElem_mem hj))
  by_cases h:jo p.Joins[j]=true
  ·refine .inl ⟨⟨hj,h⟩,fun m=>?_⟩
   show Z7 p l v13 K (m+1) (j:Int)=Z7 p l v13 K m _
   rw [Z7,if_pos (lt_pos hj),at_some hj,Option.bind_some,r1,Option.bind_some,r2,if_neg (by simp [h]),wi_next hj (by omega)]
  ·refine .inr ⟨fun ⟨_,h'⟩=>h h',fun m=>?_⟩
   show Z7 p l v13 K (m+1) (j:Int)=_
   rw [Z7,if_pos (lt_pos hj),at_some hj,Option.bind_some,r1,Option.bind_some,r2,if_pos (by simp [h])]
theorem r11 (p:TSPath) (rr:List Raw→Option Bool) (l:List Raw) (i0:Int) (K:Unit→Option Bool) (tv:TSTest→Nat→Bool) (hn:p.Steps.length≤1048576) (hs:∀ s,s ∈ p.Steps→s.length≤1048576) (hj:p.Joins.length+1=p.Steps.length) (ho:∀ c,c ∈ p.Joins→ok5 c) (ht:∀ s,s ∈ p.Steps→∀ t,t ∈ s→∀ i,Z1z rr t ((i:Nat):Int)=some (tv t i)) :
  ((∀ k,k<p.Steps.length→∃ h:k<p.Steps.length,stepG tv p.Steps[k]∧p.Steps[k]≠[]∧∀ j,k=j+1→∃ h:j<p.Joins.length,jo p.Joins[j]=true)∧limF (fun kk=>Z1 p rr l i0 K kk 0)=K ())∨(¬ (∀ k,k<p.Steps.length→∃ h:k<p.Steps.length,stepG tv p.Steps[k]∧p.Steps[k]≠[]∧∀ j,k=j+1→∃ h:j<p.Joins.length,jo p.Joins[j]=true)∧limF (fun kk=>Z1 p rr l i0 K kk 0)=some false):=by
 refine all_rounds (fun m i=>Z1 p rr l i0 K m i) (K ()) p.Steps.length (fun k=>∃ h:k<p.Steps.length,stepG tv p.Steps[k]∧p.Steps[k]≠[]∧∀ j,k=j+1→∃ h:j<p.Joins.length,jo p.Joins[j]=true) (fun m=>?_) (fun k hk=>?_)
 ·show Z1 p rr l i0 K (m+1) (p.Steps.length:Int)=_
  rw [Z1,if_neg (by simp)]
 ·have hm:=List.getElem_mem hk
  have inner:=fun m=>r12 p k hk rr l i0 (fun (_:Unit)=>(Z1 p rr l i0 K m) (wi ((k:Int)+1))) tv (hs _ hm) (ht _ hm)
  -- what is asked of the join ahead of it
  have hjoin:∃ b:Bool,(b=true↔∀ j,k=j+1→∃ h:j<p.Joins.length,jo p.Joins[j]=true)∧(p.Steps[k]≠[]→∀ m,Z1 p rr l i0 K (m+1) (k:Int)=Z20 p (k:Int) rr l i0 (Z1 p rr l i0 K m) K (!b)):=by
   cases k with
   | zero =>
    refine ⟨true,⟨fun _ j hj=>by omega,fun _=>rfl⟩,fun hne m=>?_⟩
    rw [Z1,if_pos (lt_pos hk),at_some hk,Option.bind_some,if_neg (by simpa using hne),if_neg (by simp)]
    rfl
   | succ j =>
    have hjj:j<p.Joins.length:=by omega
    obtain ⟨_,_,_,r3⟩:=jo_eq (ho _ (List.getElem_mem hjj))
    refine ⟨jo p.Joins[j],⟨fun h j' hj' => by (obtain rfl:j' = j:=(by omega)); exact ⟨hjj,h⟩,fun h=>(h j rfl).2⟩,fun hne m=>?_⟩
    have e1:wi (((j+1:Nat):Int) - 1)=(j:Int):=by rw [wi_id (by omega) (by omega)]; omega
    rw [Z1,if_pos (lt_pos hk),at_some hk,Option.bind_some,if_neg (by simpa using hne),if_pos (by simp only [decide_eq_true_eq]; omega),e1,at_some hjj,Option.bind_some,r3,Option.bind_some]
  obtain ⟨b,hb,hhead⟩:=hjoin
  by_cases hne:p.Steps[k]=[]
  ·refine .inr ⟨fun ⟨_,h⟩=>h.2.1 hne,fun m=>?_⟩
   show Z1 p rr l i0 K (m+1) (k:Int)=_
   rw [Z1,if_pos (lt_pos hk),at_some hk,Option.bind_some,if_pos (by simp [hne])]
   rfl
  ·by_cases hbt:b=true
   ·by_cases hg:stepG tv p.Steps[k]
    ·refine .inl ⟨⟨hk,hg,hne,hb.1 hbt⟩,fun m=>?_⟩
     show Z1 p rr l i0 K (m+1) (k:Int)=Z1 p rr l i0 K m _
     rw [hhead hne m,hbt]
     rcases inner m with ⟨_,h⟩ | ⟨h,_⟩
     ·rw [wi_next hk (by omega)] at h
      rw [← h]
      unfold Z20
      rw [if_neg (by simp),wi_next hk (by omega)]
     ·exact absurd hg h
    ·refine .inr ⟨fun ⟨_,h⟩=>hg h.1,fun m=>?_⟩
     show Z1 p rr l i0 K (m+1) (k:Int)=_
     rw [hhead hne m,hbt]
     rcases inner m with ⟨h,_⟩ | ⟨_,h⟩
     ·exact absurd h hg
     ·unfold Z20
      rw [if_neg (by simp),h]
   ·refine .inr ⟨fun ⟨_,h⟩=>hbt (hb.2 h.2.2),fun m=>?_⟩
    show Z1 p rr l i0 K (m+1) (k:Int)=_
    rw [hhead hne m]
    unfold Z20
    rw [if_pos (by simpa using hbt)]
def pathG (tv:TSTest→Nat→Bool) (p:TSPath):Prop:=p.Joins.length+1=p.Steps.length∧(∀ k,k<p.Steps.length→∃ h:k<p.Steps.length,stepG tv p.Steps[k]∧p.Steps[k]≠[])∧(∀ j,j<p.Joins.length→∃ h:j<p.Joins.length,jo p.Joins[j]=true)
theorem cond_len (p:TSPath) (h1:p.Steps.length≤1048576) (h2:p.Joins.length≤1048576):(((decide ((p.Steps.length:Int)=0))||(!decide ((p.Joins.length:Int)=(wi ((p.Steps.length:Int) - 1)))))=false)↔p.Joins.length+1=p.Steps.length:=by
 rw [wi_id (by omega) (by omega)]
 simp only [Bool.or_eq_false_iff,decide_eq_false_iff_not,Bool.not_eq_false',decide_eq_true_eq]
 omega
theorem p10 (l:List Raw) (xs:List TSPath) (e:l.map (·.c)=xs.map e_TSPath) (hw:Within l xs) (hN:bl l≤1048576) (hok:∀ p,p ∈ xs→ok30 p) (rp:List Raw→Option Bool) (tv:TSTest→Nat→Bool) (ht:∀ p,p ∈ xs→∀ s,s ∈ p.Steps→∀ t,t ∈ s→∀ i,Zh rp t ((i:Nat):Int)=some (tv t i)) (K:Unit→Option Bool) :
  ((∀ i,i<xs.length→∃ h:i<xs.length,pathG tv xs[i])∧limF (fun kk=>Z4 l rp K kk 0)=K ())∨(¬ (∀ i,i<xs.length→∃ h:i<xs.length,pathG tv xs[i])∧limF (fun kk=>Z4 l rp K kk 0)=some false):=by
 have hl:l.length=xs.length:=by have:=congrArg List.length e; simpa using this
 have hxl:=hw.len
 refine all_rounds (fun m i=>Z4 l rp K m i) (K ()) xs.length (fun i=>∃ h:i<xs.length,pathG tv xs[i]) (fun m=>?_) (fun i hi=>?_)
 ·show Z4 l rp K (m+1) (xs.length:Int)=_
  rw [Z4,if_neg (by rw [hl]; simp)]
 ·obtain ⟨r,r1,r2⟩:=pkid_at e hi
  have hm:=List.getElem_mem hi
  have h1:=hw.steps _ hm
  have h2:=hw.joins _ hm
  have hc:=cond_len xs[i] (by omega) (by omega)
  by_cases hlen:xs[i].Joins.length+1=xs[i].Steps.length
  ·have head:∀ m,Z4 l rp K (m+1) (i:Int)=limF fun kk2=>Z5 xs[i] rp l (i:Int) (fun (_:Unit)=>limF fun kk1=>Z7 xs[i] l (i:Int) (fun (_:Unit)=>(Z4 l rp K m) (wi ((i:Int)+1))) kk1 0) kk2 0:=fun m=>by
    rw [Z4,if_pos (by rw [hl]; exact lt_pos hi),r1,Option.bind_some,r2,Option.bind_some,if_neg (by rw [hc.2 hlen]; simp)]
   have a:=fun m=>p13 xs[i] rp l (i:Int) (fun (_:Unit)=>limF fun kk1=>Z7 xs[i] l (i:Int) (fun (_:Unit)=>(Z4 l rp K m) (wi ((i:Int)+1))) kk1 0) tv (by omega) (fun s hs=>by have:=hw.step _ hm s hs; omega) (ht _ hm)
   have b:=fun m=>p15 xs[i] l (i:Int) (fun (_:Unit)=>(Z4 l rp K m) (wi ((i:Int)+1))) (by omega) (hok _ hm).2.2
   by_cases hg:pathG tv xs[i]
   ·refine .inl ⟨⟨hi,hg⟩,fun m=>?_⟩
    show Z4 l rp K (m+1) (i:Int)=Z4 l rp K m _
    rcases a m with ⟨_,ha⟩ | ⟨ha,_⟩
    ·rcases b m with ⟨_,hb⟩ | ⟨hb,_⟩
     ·rw [head,ha,hb,wi_next hi (by omega)]
     ·exact absurd hg.2.2 hb
    ·exact absurd hg.2.1 ha
   ·refine .inr ⟨fun ⟨_,h⟩=>hg h,fun m=>?_⟩
    show Z4 l rp K (m+1) (i:Int)=_
    rcases a m with ⟨ha',ha⟩ | ⟨_,ha⟩
    ·rcases b m with ⟨hb',hb⟩ | ⟨_,hb⟩
     ·exact absurd ⟨hlen,ha',hb'⟩ hg
     ·rw [head,ha,hb]
    ·rw [head,ha]
  ·refine .inr ⟨fun ⟨_,h⟩=>hlen h.1,fun m=>?_⟩
   show Z4 l rp K (m+1) (i:Int)=_
   rw [Z4,if_pos (by rw [hl]; exact lt_pos hi),r1,Option.bind_some,r2,Option.bind_some,if_pos (by rw [← Bool.not_eq_false]; exact fun h=>hlen (hc.1 h))]
theorem r8 (l:List Raw) (xs:List TSPath) (e:l.map (·.c)=xs.map e_TSPath) (hw:Within l xs) (hN:bl l≤1048576) (hok:∀ p,p ∈ xs→ok30 p) (rr:List Raw→Option Bool) (tv:TSTest→Nat→Bool) (ht:∀ p,p ∈ xs→∀ s,s ∈ p.Steps→∀ t,t ∈ s→∀ i,Z1z rr t ((i:Nat):Int)=some (tv t i)) (K:Unit→Option Bool) :
  ((∀ i,i<xs.length→∃ h:i<xs.length,pathG tv xs[i])∧limF (fun kk=>Z6 l rr K kk 0)=K ())∨(¬ (∀ i,i<xs.length→∃ h:i<xs.length,pathG tv xs[i])∧limF (fun kk=>Z6 l rr K kk 0)=some false):=by
 have hl:l.length=xs.length:=by have:=congrArg List.length e; simpa using this
 have hxl:=hw.len
 refine all_rounds (fun m i=>Z6 l rr K m i) (K ()) xs.length (fun i=>∃ h:i<xs.length,pathG tv xs[i]) (fun m=>?_) (fun i hi=>?_)
 ·show Z6 l rr K (m+1) (xs.length:Int)=_
  rw [Z6,if_neg (by rw [hl]; simp)]
 ·obtain ⟨r,r1,r2⟩:=pkid_at e hi
  have hm:=List.getElem_mem hi
  have h1:=hw.steps _ hm
  have h2:=hw.joins _ hm
  have hc:=cond_len xs[i] (by omega) (by omega)
  by_cases hlen:xs[i].Joins.length+1=xs[i].Steps.length
  ·have head:∀ m,Z6 l rr K (m+1) (i:Int)=limF fun kk1=>Z1 xs[i] rr l (i:Int) (fun (_:Unit)=>(Z6 l rr K m) (wi ((i:Int)+1))) kk1 0:=fun m=>by
    rw [Z6,if_pos (by rw [hl]; exact lt_pos hi),r1,Option.bind_some,r2,Option.bind_some,if_neg (by rw [hc.2 hlen]; simp)]
   have a:=fun m=>r11 xs[i] rr l (i:Int) (fun (_:Unit)=>(Z6 l rr K m) (wi ((i:Int)+1))) tv (by omega) (fun s hs=>by have:=hw.step _ hm s hs; omega) hlen (hok _ hm).2.2 (ht _ hm)
   have heq:pathG tv xs[i]↔(∀ k,k<xs[i].Steps.length→∃ h:k<xs[i].Steps.length,stepG tv xs[i].Steps[k]∧xs[i].Steps[k]≠[]∧∀ j,k=j+1→∃ h:j<xs[i].Joins.length,jo xs[i].Joins[j]=true):=by
    constructor
    ·rintro ⟨_,g1,g2⟩ k hk
     obtain ⟨h,g⟩:=g1 k hk
     exact ⟨h,g.1,g.2,fun j hj=>g2 j (by omega)⟩
    ·intro g
     refine ⟨hlen,fun k hk=>?_,fun j hj=>?_⟩
     ·obtain ⟨h,g⟩:=g k hk
      exact ⟨h,g.1,g.2.1⟩
     ·obtain ⟨_,g⟩:=g (j+1) (by omega)
      exact g.2.2 j rfl
   by_cases hg:pathG tv xs[i]
   ·refine .inl ⟨⟨hi,hg⟩,fun m=>?_⟩
    show Z6 l rr K (m+1) (i:Int)=Z6 l rr K m _
    rcases a m with ⟨_,ha⟩ | ⟨ha,_⟩
    ·rw [head,ha,wi_next hi (by omega)]
    ·exact absurd (heq.1 hg) ha
   ·refine .inr ⟨fun ⟨_,h⟩=>hg h,fun m=>?_⟩
    show Z6 l rr K (m+1) (i:Int)=_
    rcases a m with ⟨ha',ha⟩ | ⟨_,ha⟩
    ·exact absurd (heq.2 ha') hg
    ·rw [head,ha]
  ·refine .inr ⟨fun ⟨_,h⟩=>hlen h.1,fun m=>?_⟩
   show Z6 l rr K (m+1) (i:Int)=_
   rw [Z6,if_pos (by rw [hl]; exact lt_pos hi),r1,Option.bind_some,r2,Option.bind_some,if_pos (by rw [← Bool.not_eq_false]; exact fun h=>hlen (hc.1 h))]
def flat (xs:List TSPath):List TSTest:=xs.flatMap fun p=>p.Steps.flatMap id
theorem flat_mem {xs:List TSPath}{p:TSPath}{s:List TSTest}{t:TSTest}(h1:p ∈ xs) (h2:s ∈ p.Steps) (h3:t ∈ s):t ∈ flat xs :=
 List.mem_flatMap.2 ⟨p,h1,List.mem_flatMap.2 ⟨s,h2,h3⟩⟩
theorem flat_inv {xs:List TSPath}{t:TSTest}(h:t ∈ flat xs):∃ p s,p ∈ xs∧s ∈ p.Steps∧t ∈ s:=by
 obtain ⟨p,h1,h⟩:=List.mem_flatMap.1 h
 obtain ⟨s,h2,h3⟩:=List.mem_flatMap.1 h
 exact ⟨p,s,h1,h2,h3⟩
theorem ok_test {xs:List TSPath}(hok:∀ p,p ∈ xs→ok30 p) {t:TSTest}(h:t ∈ flat xs):ok41 t:=by
 obtain ⟨p,s,h1,h2,h3⟩:=flat_inv h
 exact ((hok p h1).1.2 s h2).2 t h3
theorem paths_main:∀(N:Nat) (l:List Raw),bl l≤N→N≤1048576→okL l→∃ b:Bool,(∀ k,bl l<k→Zl k l=some b)∧(∀ k,bl l<k→Zo k l=some b)
 | N,l,hb,hN,hokl=>by
  obtain ⟨xs,e,hok⟩:=pkids_of l hokl
  have hw:=within_of e
  have hl:l.length=xs.length:=by have:=congrArg List.length e; simpa using this
  have ih:∀ t,t ∈ flat xs→∃ b:Bool,(∀ k,bl t.Subs<k→Zl k t.Subs=some b)∧(∀ k,bl t.Subs<k→Zo k t.Subs=some b):=fun t ht=>by
   obtain ⟨p,s,h1,h2,h3⟩:=flat_inv ht
   have:=(hw.test p h1 s h2 t h3).1
   exact paths_main (bl t.Subs) t.Subs (Nat.le_refl _) (by omega) (okL_of (ok_test hok ht).2.2.2.2.2.2.2)
  obtain ⟨bt,hbt⟩:∃ bt:TSTest→Bool,∀ t,t ∈ flat xs→(∀ k,bl t.Subs<k→Zl k t.Subs=some (bt t))∧(∀ k,bl t.Subs<k→Zo k t.Subs=some (bt t)):=by
   classical
   exact ⟨fun t=>if h:t ∈ flat xs then (ih t h).choose else false,fun t h=>by simp only [dif_pos h]; exact (ih t h).choose_spec⟩
  have hless:∀ t,t ∈ flat xs→bl t.Subs<bl l:=fun t ht=>by
   obtain ⟨p,s,h1,h2,h3⟩:=flat_inv ht
   exact (hw.test p h1 s h2 t h3).1
  have hK1:∀ t,t ∈ flat xs→∀ k,bl l≤k→Zl k t.Subs=some (bt t):=fun t ht k hk=>(hbt t ht).1 k (by have:=hless t ht; omega)
  have hK2:∀ t,t ∈ flat xs→∀ k,bl l≤k→Zo k t.Subs=some (bt t):=fun t ht k hk=>(hbt t ht).2 k (by have:=hless t ht; omega)
  let tv:TSTest→Nat→Bool:=fun t i=>(Zh (fun _=>some (bt t)) t ((i:Nat):Int)).getD false
  have hname:∀ t,t ∈ flat xs→t.Name.length≤4000000:=fun t ht=>by
   obtain ⟨p,s,h1,h2,h3⟩:=flat_inv ht
   have:=(hw.test p h1 s h2 t h3).2
   omega
  have hp:∀ k,bl l≤k→∀ p,p ∈ xs→∀ s,s ∈ p.Steps→∀ t,t ∈ s→∀ i,Zh (Zl k) t ((i:Nat):Int)=some (tv t i):=fun k hk p h1 s h2 t h3 i=>by
   have ht:=flat_mem h1 h2 h3
   rw [test_congr t (Zl k) (fun _=>some (bt t)) _ fun _=>hK1 t ht k hk]
   obtain ⟨b,b1,_⟩:=test_same t (fun _=>some (bt t)) (fun _=>some (bt t)) ((i:Nat):Int) (fun _=>⟨bt t,rfl,rfl⟩) (op_in (ok_test hok ht)) (hname t ht)
   show _=some ((Zh (fun _=>some (bt t)) t ((i:Nat):Int)).getD false)
   rw [b1]; rfl
  have hr:∀ k,bl l≤k→∀ p,p ∈ xs→∀ s,s ∈ p.Steps→∀ t,t ∈ s→∀ i,Z1z (Zo k) t ((i:Nat):Int)=some (tv t i):=fun k hk p h1 s h2 t h3 i=>by
   have ht:=flat_mem h1 h2 h3
   obtain ⟨b,b1,b2⟩:=test_same t (fun _=>some (bt t)) (Zo k) ((i:Nat):Int) (fun _=>⟨bt t,rfl,hK2 t ht k hk⟩) (op_in (ok_test hok ht)) (hname t ht)
   show _=some ((Zh (fun _=>some (bt t)) t ((i:Nat):Int)).getD false)
   rw [b1,b2]; rfl
  have hbl:bl l≤1048576:=by omega
  by_cases hg:∀ i,i<xs.length→∃ h:i<xs.length,pathG tv xs[i]
  ·refine ⟨decide (0<(l.length:Int)),fun k hk=>?_,fun k hk=>?_⟩
   ·obtain ⟨m,rfl⟩:∃ m,k=m+1:=⟨k - 1,by omega⟩
    rw [Zl]
    rcases p10 l xs e hw hbl hok (Zl m) tv (hp m (by omega)) (fun _=>some (decide (0<(l.length:Int)))) with ⟨_,h⟩ | ⟨h,_⟩
    ·exact h
    ·exact absurd hg h
   ·obtain ⟨m,rfl⟩:∃ m,k=m+1:=⟨k - 1,by omega⟩
    rw [Zo]
    rcases r8 l xs e hw hbl hok (Zo m) tv (hr m (by omega)) (fun _=>some (decide (0<(l.length:Int)))) with ⟨_,h⟩ | ⟨h,_⟩
    ·exact h
    ·exact absurd hg h
  ·refine ⟨false,fun k hk=>?_,fun k hk=>?_⟩
   ·obtain ⟨m,rfl⟩:∃ m,k=m+1:=⟨k - 1,by omega⟩
    rw [Zl]
    rcases p10 l xs e hw hbl hok (Zl m) tv (hp m (by omega)) (fun _=>some (decide (0<(l.length:Int)))) with ⟨h,_⟩ | ⟨_,h⟩
    ·exact absurd h hg
    ·exact h
   ·obtain ⟨m,rfl⟩:∃ m,k=m+1:=⟨k - 1,by omega⟩
    rw [Zo]
    rcases r8 l xs e hw hbl hok (Zo m) tv (hr m (by omega)) (fun _=>some (decide (0<(l.length:Int)))) with ⟨h,_⟩ | ⟨_,h⟩
    ·exact absurd h hg
    ·exact h
termination_by N l=>bl l
decreasing_by exact this
end Go.Proofs.YtnfgjdbajefoiaaGreatDoorBv
/- Selectors: how many tests there are, in the program and in the document. No program is in sight. -/
namespace Go.Proofs.YtnfgjdbajefoiaaGreatDoorBv
open Go
set_option linter.unusedSimpArgs false
set_option linter.unusedVariables false
def sumN (W:Nat→Nat):Nat→Nat
 | 0=>0
 | i+1=>sumN W i+W i
theorem seg_rounds {β:Type}(F:(Int→Option β)→Nat→Int→Int→Option β) (Bad:Option β→Prop) (W:Nat→Nat) (B:Nat→Prop) (n x0:Nat)
  (hstop:∀ K m x,F K (m+1) x (n:Int)=K x)
  (hstep:∀ i,i<n→(¬ B i∧∀ K m,F K (m+1) ((x0+sumN W i:Nat):Int) (i:Int)=F K m ((x0+sumN W (i+1):Nat):Int) ((i+1:Nat):Int)) ∨
   ((B i∨40<x0+sumN W (i+1))∧∃ v,Bad v∧∀ K m,F K (m+1) ((x0+sumN W i:Nat):Int) (i:Int)=v)) (hn:n≤4611686018427387903:=by omega) :
  ((∀ i,i<n→¬ B i)∧∀ K,limF (fun k=>F K k (x0:Int) 0)=K ((x0+sumN W n:Nat):Int))∨(((∃ i,i<n∧B i)∨40<x0+sumN W n)∧∃ v,Bad v∧∀ K,limF (fun k=>F K k (x0:Int) 0)=v):=by
 have main:∀ j,j≤n→((∀ i,i<j→¬ B i)∧∀ K m,F K (m+j) (x0:Int) 0=F K m ((x0+sumN W j:Nat):Int) (j:Int))∨(((∃ i,i<j∧B i)∨40<x0+sumN W j)∧∃ v,Bad v∧∀ K m,F K (m+j) (x0:Int) 0=v):=by
  intro j
  induction j with
  | zero=>intro _; exact .inl ⟨fun i hi=>absurd hi (Nat.not_lt_zero _),fun K m=>rfl⟩
  | succ j ih =>
   intro hj
   rcases ih (by omega) with ⟨h1,h2⟩ | ⟨h1,v,h2,h3⟩
   ·rcases hstep j (by omega) with ⟨g1,g2⟩ | ⟨g1,v,g2,g3⟩
    ·left
     refine ⟨fun i hi=>?_,fun K m=>?_⟩
     ·rcases Nat.lt_succ_iff_lt_or_eq.1 hi with h | rfl
      ·exact h1 i h
      ·exact g1
     ·rw [show m+(j+1)=(m+1)+j by omega,h2,g2]
    ·right
     refine ⟨?_,v,g2,fun K m=>?_⟩
     ·rcases g1 with g | g
      ·exact .inl ⟨j,by omega,g⟩
      ·exact .inr g
     ·rw [show m+(j+1)=(m+1)+j by omega,h2,g3]
   ·right
    refine ⟨?_,v,h2,fun K m=>?_⟩
    ·rcases h1 with ⟨i,hi,hB⟩ | h
     ·exact .inl ⟨i,by omega,hB⟩
     ·right; simp only [sumN]; omega
    ·rw [show m+(j+1)=(m+1)+j by omega,h3]
 rcases main n (Nat.le_refl _) with ⟨h1,h2⟩ | ⟨h1,v,h2,h3⟩
 ·exact .inl ⟨h1,fun K=>limF_add (n+1) fun m=>by rw [show m+(n+1)=(m+1)+n by omega,h2,hstop]⟩
 ·exact .inr ⟨h1,v,h2,fun K=>limF_add n fun m=>h3 K m⟩
def atW {α:Type}(f:α→Nat) (l:List α) (i:Nat):Nat:=if h:i<l.length then f l[i] else 0
theorem sumN_take {α:Type}(f:α→Nat) (l:List α):∀ i,i≤l.length→sumN (atW f l) i=((l.take i).map f).sum
 | 0,_=>by simp [sumN]
 | i+1,h=>by
  rw [sumN,sumN_take f l i (by omega),take_succ_get (by omega),List.map_append,List.sum_append]
  unfold atW
  rw [dif_pos (show i<l.length by omega)]
  simp
theorem sumN_list {α:Type}(f:α→Nat) (l:List α):sumN (atW f l) l.length=(l.map f).sum:=by
 rw [sumN_take f l _ (Nat.le_refl _),List.take_length]
theorem sumN_le {α:Type}(f:α→Nat) (l:List α) (i:Nat) (h:i≤l.length):sumN (atW f l) i≤(l.map f).sum:=by
 rw [sumN_take f l i h]
 have:l.map f=(l.take i).map f ++ (l.drop i).map f:=by rw [← List.map_append,List.take_append_drop]
 rw [this,List.sum_append]
 omega
theorem sumN_at {α:Type}(f:α→Nat) (l:List α) {i:Nat}(h:i<l.length):sumN (atW f l) (i+1)=sumN (atW f l) i+f l[i]:=by
 rw [sumN]; unfold atW; rw [dif_pos h]
def atB {α:Type}(B:α→Prop) (l:List α) (i:Nat):Prop:=∃ h:i<l.length,B l[i]
def Seg {β:Type}(G:(Int→Option β)→Option β) (Bad:Option β→Prop) (B:Prop) (x W:Nat):Prop :=
 (¬ B∧∀ K,G K=K ((x+W:Nat):Int))∨((B∨40<x+W)∧∃ v,Bad v∧∀ K,G K=v)
theorem seg_list {β α:Type}(l:List α) (f:α→Nat) (B:α→Prop) (Bad:Option β→Prop) (F:(Int→Option β)→Nat→Int→Int→Option β) (x0:Nat) (hx:x0+(l.map f).sum≤100000000) (hl:l.length≤100000000)
  (hstop:∀ K m x,F K (m+1) x (l.length:Int)=K x)
  (hstep:∀ i (h:i<l.length) (x:Nat),x+f l[i]≤100000000→∃ G,(∀ K m,F K (m+1) (x:Int) (i:Int)=G (fun y=>F K m y ((i+1:Nat):Int)))∧Seg G Bad (B l[i]) x (f l[i])) :
  Seg (fun K=>limF (fun k=>F K k (x0:Int) 0)) Bad (∃ a,a ∈ l∧B a) x0 (l.map f).sum:=by
 have:=seg_rounds F Bad (atW f l) (atB B l) l.length x0 hstop fun i hi=>by
  have hle:=sumN_le f l (i+1) (by omega)
  have hat:=sumN_at f l hi
  obtain ⟨G,hG,hs⟩:=hstep i hi (x0+sumN (atW f l) i) (by omega)
  rcases hs with ⟨h1,h2⟩ | ⟨h1,v,h2,h3⟩
  ·left
   refine ⟨fun ⟨_,h⟩=>h1 h,fun K m=>?_⟩
   rw [hG,h2,hat,Nat.add_assoc]
  ·right
   refine ⟨?_,v,h2,fun K m=>by rw [hG,h3]⟩
   rcases h1 with h | h
   ·exact .inl ⟨hi,h⟩
   ·right; omega
 rw [sumN_list] at this
 rcases this with ⟨h1,h2⟩ | ⟨h1,v,h2,h3⟩
 ·left
  refine ⟨fun ⟨a,ha,hB⟩=>?_,h2⟩
  obtain ⟨i,hi,rfl⟩:=List.getElem_of_mem ha
  exact h1 i hi ⟨hi,hB⟩
 ·right
  refine ⟨?_,v,h2,h3⟩
  rcases h1 with ⟨i,hi,_,hB⟩ | h
  ·exact .inl ⟨l[i],List.getElem_mem hi,hB⟩
  ·exact .inr h
theorem Seg.shift {β:Type}{G:(Int→Option β)→Option β}{Bad:Option β→Prop}{B:Prop}{x c W:Nat}(h:Seg G Bad B (x+c) W):Seg G Bad B x (c+W):=by
 unfold Seg at *
 rw [← Nat.add_assoc]; exact h
theorem Seg.of {β:Type}{G:(Int→Option β)→Option β}{Bad:Option β→Prop}{B B' : Prop}{x W:Nat}(h:Seg G Bad B x W) (hB:B↔B'):Seg G Bad B' x W:=by
 unfold Seg at *
 rw [← hB]; exact h
section
variable (deep : Nat) (pv : TSTest → Int × Bool) (rv : TSTest → Int)
def exP (t:TSTest):Nat:=if t.Subs.length=0 then 0 else if (pv t).2=true then (pv t).1.toNat else 0
def badP (t:TSTest):Prop:=t.Subs.length≠0∧(3≤deep∨(pv t).2=false)
def exR (t:TSTest):Nat:=1+if t.Subs.length=0 then 0 else (rv t).toNat
def badR (t:TSTest):Prop:=t.Subs.length≠0∧(3≤deep∨rv t<0)
def FailP (v:Option (Int×Bool)):Prop:=∃ x,v=some (x,false)
def FailR (v:Option Int):Prop:=v=some (-1)
theorem tp12 (s:List TSTest) (l:List Raw) (v17:Int) (p:TSPath) (v24:Int) (recf:List Raw→Int→Option (Int×Bool)) (hd:deep≤10000000) (hs:s.length≤100000000)
  (hrec:∀ t,t ∈ s→t.Subs.length≠0→recf t.Subs ((deep+1:Nat):Int)=some (pv t)) (hpos:∀ t,t ∈ s→t.Subs.length≠0→(pv t).2=true→0≤(pv t).1) (x0:Nat) (hx:x0+(s.map (exP pv)).sum≤100000000) :
  Seg (fun K=>limF (fun kk=>Z2 s (deep:Int) l v17 p v24 recf K kk (x0:Int) 0)) FailP (∃ t,t ∈ s∧badP deep pv t) x0 (s.map (exP pv)).sum:=by
 refine seg_list s (exP pv) (badP deep pv) FailP (fun K m n i=>Z2 s (deep:Int) l v17 p v24 recf K m n i) x0 hx hs (fun K m x=>?_) (fun i hi x hxx=>?_)
 ·show Z2 s (deep:Int) l v17 p v24 recf K (m+1) x (s.length:Int)=_
  rw [Z2,if_neg (by simp)]
 ·have hm:=List.getElem_mem hi
  by_cases h0:s[i].Subs.length=0
  ·refine ⟨fun K=>K (x:Int),fun K m=>?_,.inl ⟨fun h=>h.1 h0,fun K=>by unfold exP; rw [if_pos h0,Nat.add_zero]⟩⟩
   show Z2 s (deep:Int) l v17 p v24 recf K (m+1) (x:Int) (i:Int)=_
   rw [Z2,if_pos (lt_pos hi),at_some hi,Option.bind_some,if_pos (by simp only [decide_eq_true_eq]; omega)]
   unfold Z3o
   rw [wi_next hi (by omega)]
  ·have hr:=hrec _ hm h0
   have head:∀ K m,Z2 s (deep:Int) l v17 p v24 recf K (m+1) (x:Int) (i:Int)=if (((!(pv s[i]).2)||(decide ((3:Int)≤(deep:Int))))||(decide (40<(wi ((x:Int)+(pv s[i]).1)))))=true then some ((wi ((x:Int)+(pv s[i]).1)),false) else Z2 s (deep:Int) l v17 p v24 recf K m (wi ((x:Int)+(pv s[i]).1)) ((i+1:Nat):Int):=fun K m=>by
    rw [Z2,if_pos (lt_pos hi),at_some hi,Option.bind_some,if_neg (by simp only [decide_eq_true_eq]; omega),wi_id (n:=(deep:Int)+1) (by omega) (by omega),show (deep:Int)+1=((deep+1:Nat):Int) by omega,hr,Option.bind_some]
    unfold Z3o
    rw [wi_next hi (by omega)]
   by_cases hb:badP deep pv s[i]
   ·refine ⟨fun _=>some ((wi ((x:Int)+(pv s[i]).1)),false),fun K m=>?_,.inr ⟨.inl hb,_,⟨_,rfl⟩,fun K=>rfl⟩⟩
    show Z2 s (deep:Int) l v17 p v24 recf K (m+1) (x:Int) (i:Int)=_
    rw [head,if_pos]
    rcases hb.2 with h | h
    ·simp only [Bool.or_eq_true,decide_eq_true_eq]; left; right; omega
    ·simp [h]
   ·have hg:(pv s[i]).2=true∧deep<3:=by
     refine ⟨?_,?_⟩
     ·cases h:(pv s[i]).2 with
      | true=>rfl
      | false=>exact absurd ⟨h0,.inr h⟩ hb
     ·rcases Nat.lt_or_ge deep 3 with h | h
      ·exact h
      ·exact absurd ⟨h0,.inl h⟩ hb
    have hp:=hpos _ hm h0 hg.1
    have hex:(exP pv s[i]:Int)=(pv s[i]).1:=by unfold exP; rw [if_neg h0,if_pos hg.1]; omega
    have hw:wi ((x:Int)+(pv s[i]).1)=((x+exP pv s[i]:Nat):Int):=by rw [← hex,wi_id (by omega) (by omega)]; omega
    by_cases h40:40<x+exP pv s[i]
    ·refine ⟨fun _=>some ((wi ((x:Int)+(pv s[i]).1)),false),fun K m=>?_,.inr ⟨.inr h40,_,⟨_,rfl⟩,fun K=>rfl⟩⟩
     show Z2 s (deep:Int) l v17 p v24 recf K (m+1) (x:Int) (i:Int)=_
     rw [head,if_pos (by rw [hw]; simp only [Bool.or_eq_true,decide_eq_true_eq]; right; omega)]
    ·refine ⟨fun K=>K ((x+exP pv s[i]:Nat):Int),fun K m=>?_,.inl ⟨hb,fun K=>rfl⟩⟩
     show Z2 s (deep:Int) l v17 p v24 recf K (m+1) (x:Int) (i:Int)=_
     rw [head,hw,if_neg]
     simp only [hg.1,Bool.not_true,Bool.false_or,Bool.or_eq_true,decide_eq_true_eq,not_or]
     omega
def wPs (s:List TSTest):Nat:=s.length+(s.map (exP pv)).sum
def wPp (p:TSPath):Nat:=(p.Steps.map (wPs pv)).sum
theorem tp11 (p:TSPath) (l:List Raw) (v17:Int) (recf:List Raw→Int→Option (Int×Bool)) (hd:deep≤10000000) (hn:p.Steps.length≤100000000) (hs:∀ s,s ∈ p.Steps→s.length≤100000000)
  (hrec:∀ s,s ∈ p.Steps→∀ t,t ∈ s→t.Subs.length≠0→recf t.Subs ((deep+1:Nat):Int)=some (pv t)) (hpos:∀ s,s ∈ p.Steps→∀ t,t ∈ s→t.Subs.length≠0→(pv t).2=true→0≤(pv t).1) (x0:Nat) (hx:x0+wPp pv p≤100000000) :
  Seg (fun K=>limF (fun kk=>Z9 p (deep:Int) l v17 recf K kk (x0:Int) 0)) FailP (∃ s,s ∈ p.Steps∧∃ t,t ∈ s∧badP deep pv t) x0 (wPp pv p):=by
 refine seg_list p.Steps (wPs pv) (fun s=>∃ t,t ∈ s∧badP deep pv t) FailP (fun K m n i=>Z9 p (deep:Int) l v17 recf K m n i) x0 hx hn (fun K m x=>?_) (fun k hk x hxx=>?_)
 ·show Z9 p (deep:Int) l v17 recf K (m+1) x (p.Steps.length:Int)=_
  rw [Z9,if_neg (by simp)]
 ·have hm:=List.getElem_mem hk
  have hlen:=hs _ hm
  unfold wPs at hxx
  refine ⟨fun K=>limF (fun kk=>Z2 p.Steps[k] (deep:Int) l v17 p (k:Int) recf K kk ((x+p.Steps[k].length:Nat):Int) 0),fun K m=>?_,Seg.shift (tp12 deep pv p.Steps[k] l v17 p (k:Int) recf hd hlen (hrec _ hm) (hpos _ hm) (x+p.Steps[k].length) (by omega))⟩
  show Z9 p (deep:Int) l v17 recf K (m+1) (x:Int) (k:Int)=_
  rw [Z9,if_pos (lt_pos hk),at_some hk,Option.bind_some,wi_id (n:=(x:Int)+(p.Steps[k].length:Int)) (by omega) (by omega),wi_next hk (by omega)]
  rfl
theorem tp8 (l:List Raw) (xs:List TSPath) (e:l.map (·.c)=xs.map e_TSPath) (recf:List Raw→Int→Option (Int×Bool)) (hd:deep≤10000000) (hxs:xs.length≤100000000) (hn:∀ p,p ∈ xs→p.Steps.length≤100000000) (hs:∀ p,p ∈ xs→∀ s,s ∈ p.Steps→s.length≤100000000)
  (hrec:∀ p,p ∈ xs→∀ s,s ∈ p.Steps→∀ t,t ∈ s→t.Subs.length≠0→recf t.Subs ((deep+1:Nat):Int)=some (pv t)) (hpos:∀ p,p ∈ xs→∀ s,s ∈ p.Steps→∀ t,t ∈ s→t.Subs.length≠0→(pv t).2=true→0≤(pv t).1) (hx:(xs.map (wPp pv)).sum≤100000000) :
  Seg (fun K=>limF (fun kk=>Za l (deep:Int) recf K kk 0 0)) FailP (∃ p,p ∈ xs∧∃ s,s ∈ p.Steps∧∃ t,t ∈ s∧badP deep pv t) 0 (xs.map (wPp pv)).sum:=by
 have hl:l.length=xs.length:=by have:=congrArg List.length e; simpa using this
 refine seg_list xs (wPp pv) (fun p=>∃ s,s ∈ p.Steps∧∃ t,t ∈ s∧badP deep pv t) FailP (fun K m n i=>Za l (deep:Int) recf K m n i) 0 (by omega) hxs (fun K m x=>?_) (fun i hi x hxx=>?_)
 ·show Za l (deep:Int) recf K (m+1) x (xs.length:Int)=_
  rw [Za,if_neg (by rw [hl]; simp)]
 ·have hm:=List.getElem_mem hi
  obtain ⟨r,r1,r2⟩:=pkid_at e hi
  refine ⟨fun K=>limF (fun kk=>Z9 xs[i] (deep:Int) l (i:Int) recf K kk (x:Int) 0),fun K m=>?_,tp11 deep pv xs[i] l (i:Int) recf hd (hn _ hm) (hs _ hm) (hrec _ hm) (hpos _ hm) x hxx⟩
  show Za l (deep:Int) recf K (m+1) (x:Int) (i:Int)=_
  rw [Za,if_pos (by rw [hl]; exact lt_pos hi),r1,Option.bind_some,r2,Option.bind_some,wi_next hi (by omega)]
theorem tr12 (l:List Raw) (i0:Nat) (r0:Raw) (p:TSPath) (h1:at? l (i0:Int)=some r0) (h2:Z3 r0.c=some p) (k:Nat) (hk:k<p.Steps.length) (recf:List Raw→Int→Option Int) (hd:deep≤10000000) (hs:p.Steps[k].length≤100000000)
  (hrec:∀ t,t ∈ p.Steps[k]→t.Subs.length≠0→recf t.Subs ((deep+1:Nat):Int)=some (rv t)) (x0:Nat) (hx:x0+(p.Steps[k].map (exR rv)).sum≤100000000) :
  Seg (fun K=>limF (fun kk=>Z0 l (i0:Int) (k:Int) (deep:Int) recf K kk (x0:Int) 0)) FailR (∃ t,t ∈ p.Steps[k]∧badR deep rv t) x0 (p.Steps[k].map (exR rv)).sum:=by
 refine seg_list p.Steps[k] (exR rv) (badR deep rv) FailR (fun K m n i=>Z0 l (i0:Int) (k:Int) (deep:Int) recf K m n i) x0 hx hs (fun K m x=>?_) (fun i hi x hxx=>?_)
 ·show Z0 l (i0:Int) (k:Int) (deep:Int) recf K (m+1) x (p.Steps[k].length:Int)=_
  rw [Z0,h1,Option.bind_some,h2,Option.bind_some,at_some hk,Option.bind_some,if_neg (by simp)]
 ·have hm:=List.getElem_mem hi
  have w1:wi ((x:Int)+1)=((x+1:Nat):Int):=by rw [wi_id (by omega) (by omega)]; omega
  by_cases h0:p.Steps[k][i].Subs.length=0
  ·have hex:exR rv p.Steps[k][i]=1:=by unfold exR; rw [if_pos h0]
   refine ⟨fun K=>K ((x+1:Nat):Int),fun K m=>?_,.inl ⟨fun h=>h.1 h0,fun K=>by rw [hex]⟩⟩
   show Z0 l (i0:Int) (k:Int) (deep:Int) recf K (m+1) (x:Int) (i:Int)=_
   rw [Z0,h1,Option.bind_some,h2,Option.bind_some,at_some hk,Option.bind_some,if_pos (lt_pos hi),Option.bind_some,h2,Option.bind_some,at_some hk,Option.bind_some,at_some hi,Option.bind_some,if_pos (by simp only [decide_eq_true_eq]; omega)]
   unfold Z3s
   rw [wi_next hi (by omega),w1]
  ·have hex:exR rv p.Steps[k][i]=1+(rv p.Steps[k][i]).toNat:=by unfold exR; rw [if_neg h0]
   have hr:=hrec _ hm h0
   have head:∀ K m,Z0 l (i0:Int) (k:Int) (deep:Int) recf K (m+1) (x:Int) (i:Int)=Z2a (i:Int) l (deep:Int) (i0:Int) (k:Int) (x:Int) (Z0 l (i0:Int) (k:Int) (deep:Int) recf K m) K (if deep<3∧x+1≤40 then rv p.Steps[k][i] else -1):=fun K m=>by
    rw [Z0,h1,Option.bind_some,h2,Option.bind_some,at_some hk,Option.bind_some,if_pos (lt_pos hi),Option.bind_some,h2,Option.bind_some,at_some hk,Option.bind_some,at_some hi,Option.bind_some,if_neg (by simp only [decide_eq_true_eq]; omega),w1]
    by_cases c:deep<3∧x+1≤40
    ·rw [if_pos (by simp only [Bool.and_eq_true,decide_eq_true_eq]; omega),if_pos c,wi_id (n:=(deep:Int)+1) (by omega) (by omega),show (deep:Int)+1=((deep+1:Nat):Int) by omega,hr,Option.bind_some]
    ·rw [if_neg (by simp only [Bool.and_eq_true,decide_eq_true_eq]; omega),if_neg c]
   have failj:∀ K m (y:Int),y<0→Z2a (i:Int) l (deep:Int) (i0:Int) (k:Int) (x:Int) (Z0 l (i0:Int) (k:Int) (deep:Int) recf K m) K y=some (-1):=fun K m y hy=>by
    unfold Z2a
    rw [if_pos (by simpa using hy)]
   by_cases hb:badR deep rv p.Steps[k][i]
   ·refine ⟨fun _=>some (-1),fun K m=>?_,.inr ⟨.inl hb,_,rfl,fun K=>rfl⟩⟩
    show Z0 l (i0:Int) (k:Int) (deep:Int) recf K (m+1) (x:Int) (i:Int)=_
    rw [head]
    apply failj
    split
    ·rename_i c
     rcases hb.2 with h | h
     ·omega
     ·exact h
    ·omega
   ·have hg:deep<3∧0≤rv p.Steps[k][i]:=by
     refine ⟨?_,?_⟩
     ·rcases Nat.lt_or_ge deep 3 with h | h
      ·exact h
      ·exact absurd ⟨h0,.inl h⟩ hb
     ·rcases Int.lt_or_le (rv p.Steps[k][i]) 0 with h | h
      ·exact absurd ⟨h0,.inr h⟩ hb
      ·exact h
    by_cases h40:x+1≤40
    ·refine ⟨fun K=>K ((x+exR rv p.Steps[k][i]:Nat):Int),fun K m=>?_,.inl ⟨hb,fun K=>rfl⟩⟩
     show Z0 l (i0:Int) (k:Int) (deep:Int) recf K (m+1) (x:Int) (i:Int)=_
     rw [head,if_pos ⟨hg.1,h40⟩]
     unfold Z2a Z3s
     rw [if_neg (by simp only [decide_eq_true_eq]; omega),w1,wi_next hi (by omega),wi_id (by omega) (by omega)]
     congr 1
     omega
    ·refine ⟨fun _=>some (-1),fun K m=>?_,.inr ⟨.inr (by omega),_,rfl,fun K=>rfl⟩⟩
     show Z0 l (i0:Int) (k:Int) (deep:Int) recf K (m+1) (x:Int) (i:Int)=_
     rw [head]
     apply failj
     rw [if_neg (fun h=>h40 h.2)]
     omega
def wRs (s:List TSTest):Nat:=(s.map (exR rv)).sum
def wRp (p:TSPath):Nat:=(p.Steps.map (wRs rv)).sum
theorem tr11 (l:List Raw) (i0:Nat) (r0:Raw) (p:TSPath) (h1:at? l (i0:Int)=some r0) (h2:Z3 r0.c=some p) (recf:List Raw→Int→Option Int) (hd:deep≤10000000) (hn:p.Steps.length≤100000000) (hs:∀ s,s ∈ p.Steps→s.length≤100000000)
  (hrec:∀ s,s ∈ p.Steps→∀ t,t ∈ s→t.Subs.length≠0→recf t.Subs ((deep+1:Nat):Int)=some (rv t)) (x0:Nat) (hx:x0+wRp rv p≤100000000) :
  Seg (fun K=>limF (fun kk=>Zc l (i0:Int) (deep:Int) recf K kk (x0:Int) 0)) FailR (∃ s,s ∈ p.Steps∧∃ t,t ∈ s∧badR deep rv t) x0 (wRp rv p):=by
 refine seg_list p.Steps (wRs rv) (fun s=>∃ t,t ∈ s∧badR deep rv t) FailR (fun K m n i=>Zc l (i0:Int) (deep:Int) recf K m n i) x0 hx hn (fun K m x=>?_) (fun k hk x hxx=>?_)
 ·show Zc l (i0:Int) (deep:Int) recf K (m+1) x (p.Steps.length:Int)=_
  rw [Zc,h1,Option.bind_some,h2,Option.bind_some,if_neg (by simp)]
 ·have hm:=List.getElem_mem hk
  refine ⟨fun K=>limF (fun kk=>Z0 l (i0:Int) (k:Int) (deep:Int) recf K kk (x:Int) 0),fun K m=>?_,tr12 deep rv l i0 r0 p h1 h2 k hk recf hd (hs _ hm) (hrec _ hm) x hxx⟩
  show Zc l (i0:Int) (deep:Int) recf K (m+1) (x:Int) (k:Int)=_
  rw [Zc,h1,Option.bind_some,h2,Option.bind_some,if_pos (lt_pos hk),wi_next hk (by omega)]
theorem tr8 (l:List Raw) (xs:List TSPath) (e:l.map (·.c)=xs.map e_TSPath) (recf:List Raw→Int→Option Int) (hd:deep≤10000000) (hxs:xs.length≤100000000) (hn:∀ p,p ∈ xs→p.Steps.length≤100000000) (hs:∀ p,p ∈ xs→∀ s,s ∈ p.Steps→s.length≤100000000)
  (hrec:∀ p,p ∈ xs→∀ s,s ∈ p.Steps→∀ t,t ∈ s→t.Subs.length≠0→recf t.Subs ((deep+1:Nat):Int)=some (rv t)) (hx:(xs.map (wRp rv)).sum≤100000000) :
  Seg (fun K=>limF (fun kk=>Z8 l (deep:Int) recf K kk 0 0)) FailR (∃ p,p ∈ xs∧∃ s,s ∈ p.Steps∧∃ t,t ∈ s∧badR deep rv t) 0 (xs.map (wRp rv)).sum:=by
 have hl:l.length=xs.length:=by have:=congrArg List.length e; simpa using this
 refine seg_list xs (wRp rv) (fun p=>∃ s,s ∈ p.Steps∧∃ t,t ∈ s∧badR deep rv t) FailR (fun K m n i=>Z8 l (deep:Int) recf K m n i) 0 (by omega) hxs (fun K m x=>?_) (fun i hi x hxx=>?_)
 ·show Z8 l (deep:Int) recf K (m+1) x (xs.length:Int)=_
  rw [Z8,if_neg (by rw [hl]; simp)]
 ·have hm:=List.getElem_mem hi
  obtain ⟨r,r1,r2⟩:=pkid_at e hi
  refine ⟨fun K=>limF (fun kk=>Zc l (i:Int) (deep:Int) recf K kk (x:Int) 0),fun K m=>?_,tr11 deep rv l i r xs[i] r1 r2 recf hd (hn _ hm) (hs _ hm) (hrec _ hm) x hxx⟩
  show Z8 l (deep:Int) recf K (m+1) (x:Int) (i:Int)=_
  rw [Z8,if_pos (by rw [hl]; exact lt_pos hi),wi_next hi (by omega)]
end
/-! ### both together -/
theorem sum_congr {α:Type}{f g:α→Nat}:∀{l:List α},(∀ a,a ∈ l→f a=g a)→(l.map f).sum=(l.map g).sum
 | [],_=>rfl
 | a::r,h=>by simp only [List.map_cons,List.sum_cons]; rw [h a (List.mem_cons_self ..),sum_congr fun b hb=>h b (List.mem_cons_of_mem _ hb)]
theorem sum_lee {α:Type}{f g:α→Nat}:∀{l:List α},(∀ a,a ∈ l→f a≤g a)→(l.map f).sum≤(l.map g).sum
 | [],_=>Nat.le_refl _
 | a::r,h=>by simp only [List.map_cons,List.sum_cons]; have:=h a (List.mem_cons_self ..); have:=sum_lee fun b hb=>h b (List.mem_cons_of_mem _ hb); omega
theorem sum_meme {α:Type}{f:α→Nat}:∀{l:List α}{a:α},a ∈ l→f a≤(l.map f).sum
 | b::r,a,h=>by
  simp only [List.map_cons,List.sum_cons]
  rcases List.mem_cons.1 h with rfl | h
  ·omega
  ·have:=sum_meme (f:=f) h; omega
theorem sum_add1 {α:Type}{f g:α→Nat}(h:∀ a,g a=1+f a):∀ l:List α,(l.map g).sum=l.length+(l.map f).sum
 | []=>rfl
 | a::r=>by simp only [List.map_cons,List.sum_cons,List.length_cons]; rw [sum_add1 h r,h a]; omega
end Go.Proofs.YtnfgjdbajefoiaaGreatDoorBv
/- Selectors: what is wrong with paths, in the program and in the document. No program is in sight. -/
namespace Go.Proofs.YtnfgjdbajefoiaaGreatDoorBv
open Go
set_option linter.unusedSimpArgs false
set_option linter.unusedVariables false
theorem at_mem {α:Type}{l:List α}{i:Int}{a:α}(h:at? l i=some a):a ∈ l:=List.mem_of_getElem? (at_spec h).2
theorem cp12 (s:List TSTest) (deep:Int) (l:List Raw) (v17:Int) (p:TSPath) (v24:Int) (f g:List Raw→Int→Option (Int×Bool)) (h:∀ t,t ∈ s→t.Subs.length≠0→f t.Subs (wi (deep+1))=g t.Subs (wi (deep+1))) (K:Int→Option (Int×Bool)):∀ k,Z2 s deep l v17 p v24 f K k=Z2 s deep l v17 p v24 g K k
 | 0=>rfl
 | k+1=>by
  funext n i
  rw [Z2,Z2,cp12 s deep l v17 p v24 f g h K k]
  split
  ·cases hx:at? s i with
   | none=>simp only [Option.bind_none]
   | some t =>
    simp only [Option.bind_some]
    split
    ·rfl
    ·rename_i h0
     rw [h t (at_mem hx) (by simp only [decide_eq_true_eq] at h0; omega)]
  ·rfl
theorem cp11 (p:TSPath) (deep:Int) (l:List Raw) (v17:Int) (f g:List Raw→Int→Option (Int×Bool)) (h:∀ s,s ∈ p.Steps→∀ t,t ∈ s→t.Subs.length≠0→f t.Subs (wi (deep+1))=g t.Subs (wi (deep+1))) (K:Int→Option (Int×Bool)):∀ k,Z9 p deep l v17 f K k=Z9 p deep l v17 g K k
 | 0=>rfl
 | k+1=>by
  funext n i
  rw [Z9,Z9,cp11 p deep l v17 f g h K k]
  split
  ·cases hx:at? p.Steps i with
   | none=>simp only [Option.bind_none]
   | some s =>
    simp only [Option.bind_some]
    refine congrArg limF (funext fun kk=>?_)
    rw [cp12 s deep l v17 p i f g (h s (at_mem hx))]
  ·rfl
theorem cp8 (l:List Raw) (deep:Int) (f g:List Raw→Int→Option (Int×Bool)) (h:∀ r,r ∈ l→∀ p,Z3 r.c=some p→∀ s,s ∈ p.Steps→∀ t,t ∈ s→t.Subs.length≠0→f t.Subs (wi (deep+1))=g t.Subs (wi (deep+1))) (K:Int→Option (Int×Bool)):∀ k,Za l deep f K k=Za l deep g K k
 | 0=>rfl
 | k+1=>by
  funext n i
  rw [Za,Za,cp8 l deep f g h K k]
  split
  ·cases hx:at? l i with
   | none=>simp only [Option.bind_none]
   | some r =>
    simp only [Option.bind_some]
    cases hp:Z3 r.c with
    | none=>simp only [Option.bind_none]
    | some p =>
     simp only [Option.bind_some]
     refine congrArg limF (funext fun kk=>?_)
     rw [cp11 p deep l i f g (h r (at_mem hx) p hp)]
  ·rfl
theorem cr12 (l:List Raw) (i k deep:Int) (f g:List Raw→Int→Option Int) (h:∀ r,r ∈ l→∀ p,Z3 r.c=some p→∀ s,s ∈ p.Steps→∀ t,t ∈ s→t.Subs.length≠0→f t.Subs (wi (deep+1))=g t.Subs (wi (deep+1))) (K:Int→Option Int):∀ m,Z0 l i k deep f K m=Z0 l i k deep g K m
 | 0=>rfl
 | m+1=>by
  funext n j
  rw [Z0,Z0,cr12 l i k deep f g h K m]
  cases h1:at? l i with
  | none=>simp only [Option.bind_none]
  | some r =>
   simp only [Option.bind_some]
   cases h2:Z3 r.c with
   | none=>simp only [Option.bind_none]
   | some p =>
    simp only [Option.bind_some]
    cases h3:at? p.Steps k with
    | none=>simp only [Option.bind_none]
    | some s =>
     simp only [Option.bind_some]
     split
     ·cases h4:at? s j with
      | none=>simp only [Option.bind_none]
      | some t =>
       simp only [Option.bind_some]
       split
       ·rfl
       ·rename_i h0
        split
        ·rw [h r (at_mem h1) p h2 s (at_mem h3) t (at_mem h4) (by simp only [decide_eq_true_eq] at h0; omega)]
        ·rfl
     ·rfl
theorem cr11 (l:List Raw) (i deep:Int) (f g:List Raw→Int→Option Int) (h:∀ r,r ∈ l→∀ p,Z3 r.c=some p→∀ s,s ∈ p.Steps→∀ t,t ∈ s→t.Subs.length≠0→f t.Subs (wi (deep+1))=g t.Subs (wi (deep+1))) (K:Int→Option Int):∀ m,Zc l i deep f K m=Zc l i deep g K m
 | 0=>rfl
 | m+1=>by
  funext n k
  rw [Zc,Zc,cr11 l i deep f g h K m]
  cases h1:at? l i with
  | none=>simp only [Option.bind_none]
  | some r =>
   simp only [Option.bind_some]
   cases h2:Z3 r.c with
   | none=>simp only [Option.bind_none]
   | some p =>
    simp only [Option.bind_some]
    split
    ·refine congrArg limF (funext fun kk=>?_)
     rw [cr12 l i k deep f g h]
    ·rfl
theorem cr8 (l:List Raw) (deep:Int) (f g:List Raw→Int→Option Int) (h:∀ r,r ∈ l→∀ p,Z3 r.c=some p→∀ s,s ∈ p.Steps→∀ t,t ∈ s→t.Subs.length≠0→f t.Subs (wi (deep+1))=g t.Subs (wi (deep+1))) (K:Int→Option Int):∀ m,Z8 l deep f K m=Z8 l deep g K m
 | 0=>rfl
 | m+1=>by
  funext n i
  rw [Z8,Z8,cr8 l deep f g h K m]
  split
  ·refine congrArg limF (funext fun kk=>?_)
   rw [cr11 l i deep f g h]
  ·rfl
theorem d_inv {l:List Raw}{xs:List TSPath}(e:l.map (·.c)=xs.map e_TSPath) {r:Raw}(hr:r ∈ l) {p:TSPath}(hp:Z3 r.c=some p):p ∈ xs:=by
 have:r.c ∈ xs.map e_TSPath:=by rw [← e]; exact List.mem_map_of_mem hr
 obtain ⟨q,hq,h⟩:=List.mem_map.1 this
 rw [← h,Z8a] at hp
 cases hp
 exact hq
theorem count_main:∀(l:List Raw) (d:Nat),d+bl l≤2000000→bl l≤1048576→okL l→∃(p:Int×Bool) (r:Int),(∀ k,bl l<k→Zk k l (d:Int)=some p)∧(∀ k,bl l<k→Zi k l (d:Int)=some r) ∧
  (p.2=true→p.1=r∧0≤r∧r≤40)∧(p.2=false→r<0∨40<r)∧r≤(bl l:Int)
 | l,d,hd,hN,hokl=>by
  obtain ⟨xs,e,hok⟩:=pkids_of l hokl
  have hw:=within_of e
  have ih:∀ t,t ∈ flat xs→∃ q:(Int×Bool)×Int,(∀ k,bl t.Subs<k→Zk k t.Subs ((d+1:Nat):Int)=some q.1)∧(∀ k,bl t.Subs<k→Zi k t.Subs ((d+1:Nat):Int)=some q.2) ∧
    (q.1.2=true→q.1.1=q.2∧0≤q.2∧q.2≤40)∧(q.1.2=false→q.2<0∨40<q.2)∧q.2≤(bl t.Subs:Int):=fun t ht=>by
   obtain ⟨p,s,h1,h2,h3⟩:=flat_inv ht
   have:=(hw.test p h1 s h2 t h3).1
   obtain ⟨p,r,g⟩:=count_main t.Subs (d+1) (by omega) (by omega) (okL_of (ok_test hok ht).2.2.2.2.2.2.2)
   exact ⟨(p,r),g⟩
  obtain ⟨q,hq⟩:∃ q:TSTest→(Int×Bool)×Int,∀ t,t ∈ flat xs→(∀ k,bl t.Subs<k→Zk k t.Subs ((d+1:Nat):Int)=some (q t).1)∧(∀ k,bl t.Subs<k→Zi k t.Subs ((d+1:Nat):Int)=some (q t).2) ∧
    ((q t).1.2=true→(q t).1.1=(q t).2∧0≤(q t).2∧(q t).2≤40)∧((q t).1.2=false→(q t).2<0∨40<(q t).2)∧(q t).2≤(bl t.Subs:Int):=by
   classical
   exact ⟨fun t=>if h:t ∈ flat xs then (ih t h).choose else ((0,false),0),fun t h=>by simp only [dif_pos h]; exact (ih t h).choose_spec⟩
  have hless:∀ t,t ∈ flat xs→bl t.Subs<bl l:=fun t ht=>by
   obtain ⟨p,s,h1,h2,h3⟩:=flat_inv ht
   exact (hw.test p h1 s h2 t h3).1
  have hK1:∀ t,t ∈ flat xs→∀ k,bl l≤k→Zk k t.Subs ((d+1:Nat):Int)=some (q t).1:=fun t ht k hk=>(hq t ht).1 k (by have:=hless t ht; omega)
  have hK2:∀ t,t ∈ flat xs→∀ k,bl l≤k→Zi k t.Subs ((d+1:Nat):Int)=some (q t).2:=fun t ht k hk=>(hq t ht).2.1 k (by have:=hless t ht; omega)
  let pv:TSTest→Int×Bool:=fun t=>(q t).1
  let rv:TSTest→Int:=fun t=>(q t).2
  have hb:bl l=(xs.map fun p=>bulkL (e_TSPath p)).sum:=by
   have e' : l.map eRaw=xs.map e_TSPath:=e
   unfold bl; rw [e',bulkE_map]
  have hS:∀ s:List TSTest,bulkE (s.map e_TSTest)=(s.map fun t=>bulkL (e_TSTest t)).sum:=fun s=>bulkE_map e_TSTest s
  have hP:∀ p:TSPath,bulkL (e_TSPath p)=(p.Steps.map fun s=>bulkE (s.map e_TSTest)+1).sum+bulkE (p.Joins.map (eK .u8))+2:=fun p=>by
   rw [bulk_path,bulkE_map (eSl 7 e_TSTest) p.Steps]
   congr 2
  have hR1:∀ t,t ∈ flat xs→exR rv t≤bulkL (e_TSTest t):=fun t ht=>by
   have:=(hq t ht).2.2.2.2
   rw [bulk_test]
   unfold exR
   show 1+(if t.Subs.length=0 then 0 else (q t).2.toNat)≤_
   split <;> omega
  have hP1:∀ t,t ∈ flat xs→1+exP pv t≤bulkL (e_TSTest t):=fun t ht=>by
   have h1:=(hq t ht).2.2.2.2
   have h2:=(hq t ht).2.2.1
   rw [bulk_test]
   unfold exP
   show 1+(if t.Subs.length=0 then 0 else if (q t).1.2=true then (q t).1.1.toNat else 0)≤_
   split
   ·omega
   ·split
    ·rename_i h
     have:=h2 h
     omega
    ·omega
  have hTR:(xs.map (wRp rv)).sum≤bl l:=by
   rw [hb]
   refine sum_lee fun p hp=>?_
   rw [hP]
   have:wRp rv p≤(p.Steps.map fun s=>bulkE (s.map e_TSTest)+1).sum:=sum_lee fun s hs=>by
    rw [hS]
    have:wRs rv s≤(s.map fun t=>bulkL (e_TSTest t)).sum:=sum_lee fun t ht=>hR1 t (flat_mem hp hs ht)
    omega
   omega
  have hTP:(xs.map (wPp pv)).sum≤bl l:=by
   rw [hb]
   refine sum_lee fun p hp=>?_
   rw [hP]
   have:wPp pv p≤(p.Steps.map fun s=>bulkE (s.map e_TSTest)+1).sum:=sum_lee fun s hs=>by
    rw [hS]
    have h1:wPs pv s=(s.map fun t=>1+exP pv t).sum:=(sum_add1 (fun _=>rfl) s).symm
    have h2:(s.map fun t=>1+exP pv t).sum≤(s.map fun t=>bulkL (e_TSTest t)).sum:=sum_lee fun t ht=>hP1 t (flat_mem hp hs ht)
    omega
   omega
  have hlen:=hw.len
  have sp:=fun m (hm:bl l≤m)=>tp8 d pv l xs e (Zk m) (by omega) (by omega) (fun p hp=>by have:=hw.steps p hp; omega) (fun p hp s hs=>by have:=hw.step p hp s hs; omega)
   (fun p hp s hs t ht _=>hK1 t (flat_mem hp hs ht) m hm) (fun p hp s hs t ht _ h=>by have:=(hq t (flat_mem hp hs ht)).2.2.1 h; show 0≤(q t).1.1; omega) (by omega)
  have sr:=fun m (hm:bl l≤m)=>tr8 d rv l xs e (Zi m) (by omega) (by omega) (fun p hp=>by have:=hw.steps p hp; omega) (fun p hp s hs=>by have:=hw.step p hp s hs; omega)
   (fun p hp s hs t ht _=>hK2 t (flat_mem hp hs ht) m hm) (by omega)
  have hpr:∀ m,bl l≤m→Zk (m+1) l (d:Int)=limF fun kk=>Za l (d:Int) (Zk (bl l)) (fun n=>some (n,decide (n≤40))) kk 0 0:=fun m hm=>by
   rw [Zk]
   refine congrArg limF (funext fun kk=>?_)
   rw [cp8 l (d:Int) (Zk m) (Zk (bl l))]
   intro r hr p hp s hs t ht _
   have hf:=flat_mem (d_inv e hr hp) hs ht
   rw [wi_id (by omega) (by omega),show (d:Int)+1=((d+1:Nat):Int) by omega,hK1 t hf m hm,hK1 t hf (bl l) (Nat.le_refl _)]
  -- where nothing is bad for the program, the two sums are one
  have same:(¬ ∃ p,p ∈ xs∧∃ s,s ∈ p.Steps∧∃ t,t ∈ s∧badP d pv t)→(xs.map (wRp rv)).sum=(xs.map (wPp pv)).sum:=fun hn=>by
   refine sum_congr fun p hp=>sum_congr fun s hs=>?_
   have h1:wPs pv s=(s.map fun t=>1+exP pv t).sum:=(sum_add1 (fun _=>rfl) s).symm
   rw [h1]
   refine sum_congr fun t ht=>?_
   unfold exR exP
   by_cases h0:t.Subs.length=0
   ·rw [if_pos h0,if_pos h0]
   ·have h2:(q t).1.2=true:=by
     cases h:(q t).1.2 with
     | true=>rfl
     | false=>exact absurd ⟨p,hp,s,hs,t,ht,h0,.inr h⟩ hn
    have h3:=(hq t (flat_mem hp hs ht)).2.2.1 h2
    rw [if_neg h0,if_neg h0,if_pos h2]
    show 1+(q t).2.toNat=1+(q t).1.1.toNat
    rw [h3.1]
  -- what is bad for the document is bad for the program
  have badR_P:(∃ p,p ∈ xs∧∃ s,s ∈ p.Steps∧∃ t,t ∈ s∧badR d rv t)→∃ p,p ∈ xs∧∃ s,s ∈ p.Steps∧∃ t,t ∈ s∧badP d pv t:=by
   rintro ⟨p,hp,s,hs,t,ht,h0,h⟩
   refine ⟨p,hp,s,hs,t,ht,h0,?_⟩
   rcases h with h | h
   ·exact .inl h
   ·right
    cases h2:(q t).1.2 with
    | false=>rfl
    | true =>
     have h3:=(hq t (flat_mem hp hs ht)).2.2.1 h2
     have h4:(q t).2<0:=h
     omega
  -- what is bad for the program alone is much for the document
  have big:(∃ p,p ∈ xs∧∃ s,s ∈ p.Steps∧∃ t,t ∈ s∧badP d pv t)→(¬ ∃ p,p ∈ xs∧∃ s,s ∈ p.Steps∧∃ t,t ∈ s∧badR d rv t)→40<(xs.map (wRp rv)).sum:=by
   rintro ⟨p,hp,s,hs,t,ht,h0,h⟩ hn
   have h2:¬ (3≤d∨(q t).2<0):=fun h' => hn ⟨p,hp,s,hs,t,ht,h0,h'⟩
   have h3:(q t).1.2=false:=by
    rcases h with h | h
    ·omega
    ·exact h
   have h4:=(hq t (flat_mem hp hs ht)).2.2.2.1 h3
   have h5:exR rv t=1+(q t).2.toNat:=by unfold exR; rw [if_neg h0]
   have h6:exR rv t≤wRs rv s:=sum_meme (f:=exR rv) ht
   have h7:wRs rv s≤wRp rv p:=sum_meme (f:=wRs rv) hs
   have h8:wRp rv p≤(xs.map (wRp rv)).sum:=sum_meme (f:=wRp rv) hp
   omega
  have hrr:∀ m,bl l≤m→Zi (m+1) l (d:Int)=limF fun kk=>Z8 l (d:Int) (Zi (bl l)) (fun n=>some n) kk 0 0:=fun m hm=>by
   rw [Zi]
   refine congrArg limF (funext fun kk=>?_)
   rw [cr8 l (d:Int) (Zi m) (Zi (bl l))]
   intro r hr p hp s hs t ht _
   have hf:=flat_mem (d_inv e hr hp) hs ht
   rw [wi_id (by omega) (by omega),show (d:Int)+1=((d+1:Nat):Int) by omega,hK2 t hf m hm,hK2 t hf (bl l) (Nat.le_refl _)]
  -- the document's answer
  obtain ⟨r,hr1,hr2⟩:∃ r:Int,(limF fun kk=>Z8 l (d:Int) (Zi (bl l)) (fun n=>some n) kk 0 0)=some r∧(((¬ ∃ p,p ∈ xs∧∃ s,s ∈ p.Steps∧∃ t,t ∈ s∧badR d rv t)∧r=((xs.map (wRp rv)).sum:Nat))∨(((∃ p,p ∈ xs∧∃ s,s ∈ p.Steps∧∃ t,t ∈ s∧badR d rv t)∨40<(xs.map (wRp rv)).sum)∧r = -1)):=by
   rcases sr (bl l) (Nat.le_refl _) with ⟨h1,h2⟩ | ⟨h1,v,hv,h3⟩
   ·have:=h2 (fun n=>some n)
    rw [Nat.zero_add] at this
    exact ⟨_,this,.inl ⟨h1,rfl⟩⟩
   ·have:=h3 (fun n=>some n)
    rw [Nat.zero_add] at h1
    exact ⟨-1,by rw [← hv]; exact this,.inr ⟨h1,rfl⟩⟩
  -- the program's answer
  rcases sp (bl l) (Nat.le_refl _) with ⟨h1,h2⟩ | ⟨h1,v,⟨x,rfl⟩,h3⟩
  ·have hp2:=h2 (fun n=>some (n,decide (n≤40)))
   rw [Nat.zero_add] at hp2
   have hsame:=same h1
   refine ⟨(((xs.map (wPp pv)).sum:Nat),decide ((((xs.map (wPp pv)).sum:Nat):Int)≤40)),r,fun k hk=>?_,fun k hk=>?_,fun h=>?_,fun h=>?_,?_⟩
   ·obtain ⟨m,rfl⟩:∃ m,k=m+1:=⟨k - 1,by omega⟩
    rw [hpr m (by omega)]; exact hp2
   ·obtain ⟨m,rfl⟩:∃ m,k=m+1:=⟨k - 1,by omega⟩
    rw [hrr m (by omega),hr1]
   ·simp only [decide_eq_true_eq] at h
    rcases hr2 with ⟨_,hr⟩ | ⟨hr,_⟩
    ·refine ⟨?_,?_,?_⟩
     ·show (((xs.map (wPp pv)).sum:Nat):Int)=r
      rw [hr,hsame]
     ·omega
     ·rw [hr,hsame]; exact h
    ·rcases hr with hr | hr
     ·exact absurd (badR_P hr) h1
     ·omega
   ·simp only [decide_eq_false_iff_not] at h
    rcases hr2 with ⟨_,hr⟩ | ⟨_,hr⟩
    ·right; omega
    ·left; omega
   ·rcases hr2 with ⟨_,hr⟩ | ⟨_,hr⟩ <;> omega
  ·have hp2:=h3 (fun n=>some (n,decide (n≤40)))
   rw [Nat.zero_add] at h1
   refine ⟨(x,false),r,fun k hk=>?_,fun k hk=>?_,(fun h=>by cases h),fun _=>?_,?_⟩
   ·obtain ⟨m,rfl⟩:∃ m,k=m+1:=⟨k - 1,by omega⟩
    rw [hpr m (by omega)]; exact hp2
   ·obtain ⟨m,rfl⟩:∃ m,k=m+1:=⟨k - 1,by omega⟩
    rw [hrr m (by omega),hr1]
   ·rcases hr2 with ⟨hn,hr⟩ | ⟨_,hr⟩
    ·right
     by_cases hB:∃ p,p ∈ xs∧∃ s,s ∈ p.Steps∧∃ t,t ∈ s∧badP d pv t
     ·have:=big hB hn
      omega
     ·have:=same hB
      rcases h1 with h1 | h1
      ·exact absurd h1 hB
      ·omega
    ·left; omega
   ·rcases hr2 with ⟨_,hr⟩ | ⟨_,hr⟩ <;> omega
termination_by l d=>bl l
decreasing_by exact this
theorem check_same (l:List Raw) (hb:bl l≤1048576) (hok:okL l):∃ r,Z3q l=some r∧Z5c l=some r:=by
 obtain ⟨p,r,h1,h2,ht,hf,_⟩:=count_main l 0 (by omega) hb hok
 obtain ⟨b,h3,h4⟩:=paths_main (bl l) l (Nat.le_refl _) hb hok
 have e1:Z63 l 0=some p:=limF_of (bl l+1) fun k hk=>h1 k (by omega)
 have e2:Z67 l 0=some r:=limF_of (bl l+1) fun k hk=>h2 k (by omega)
 have e3:Z64 l=some b:=limF_of (bl l+1) fun k hk=>h3 k (by omega)
 have e4:Z6g l=some b:=limF_of (bl l+1) fun k hk=>h4 k (by omega)
 unfold Z3q Z5c
 rw [e1,e2,e3,e4]
 simp only [Option.bind_some]
 cases hp:p.2 with
 | true =>
  obtain ⟨_,g1,g2⟩:=ht hp
  rw [if_neg (show ¬ ((!true)=true) by simp),if_neg (show ¬ ((decide (r<0))||(decide (40<r)))=true by simp only [Bool.or_eq_true,decide_eq_true_eq]; omega)]
  cases b
  ·exact ⟨3,rfl,rfl⟩
  ·exact ⟨0,rfl,rfl⟩
 | false =>
  have g:=hf hp
  rw [if_pos (show (!false)=true by rfl),if_pos (show ((decide (r<0))||(decide (40<r)))=true by simp only [Bool.or_eq_true,decide_eq_true_eq]; omega)]
  exact ⟨2,rfl,rfl⟩
end Go.Proofs.YtnfgjdbajefoiaaGreatDoorBv
/- The law of what a path weighs, over plain values. No program is in sight. -/
namespace Go.Proofs.YtnfgjdbajefoiaaGreatDoorBv
open Go
set_option linter.unusedSimpArgs false
set_option linter.unusedVariables false
set_option maxRecDepth 100000 in
theorem listed_eq:Z65=some true:=by kernel_rfl
def mxl:List Nat→Nat→Nat
 | [],m=>m
 | a::r,m=>mxl r (max m a)
theorem mxl_le:∀(l:List Nat) (m B:Nat),m≤B→(∀ a,a ∈ l→a≤B)→mxl l m≤B
 | [],m,B,h,_=>h
 | a::r,m,B,h,hl=>mxl_le r (max m a) B (Nat.max_le.2 ⟨h,hl a (List.mem_cons_self ..)⟩) fun b hb=>hl b (List.mem_cons_of_mem _ hb)
theorem mx_nat (a b:Nat):mx (a:Int) (b:Int)=((max a b:Nat):Int):=by
 unfold mx
 split <;> omega
theorem max_all {α:Type}(xs:List α) (hx:xs.length≤100000000) (w:α→Nat) (F:Nat→Int→Int→Option Int) (K:Int→Option Int) (hstop:∀ m x,F (m+1) x (xs.length:Int)=K x)
  (hstep:∀ i (h:i<xs.length) m (x:Nat),F (m+1) (x:Int) (i:Int)=F m (mx (x:Int) (w xs[i]:Int)) (wi ((i:Int)+1))):limF (fun k=>F k 0 0)=K ((mxl (xs.map w) 0:Nat):Int):=by
 obtain ⟨s,⟨m0,hm0,hm⟩,h⟩:=rounds_all (σ:=Int) (fun m s i=>F m s i) K xs.length (fun i s=>∃ m:Nat,s=(m:Int)∧mxl (xs.map w) 0=mxl ((xs.drop i).map w) m) 0 ⟨0,rfl,by simp⟩ (fun m s _=>hstop m s)
  (fun s i hi hI=>by
   obtain ⟨m0,e0,hm⟩:=hI
   subst e0
   have hd:xs.drop i=xs[i]::xs.drop (i+1):=List.drop_eq_getElem_cons hi
   rw [hd,List.map_cons,mxl] at hm
   exact ⟨((max m0 (w xs[i]):Nat):Int),⟨_,rfl,hm⟩,fun m=>by rw [hstep i hi m m0,mx_nat,wi_next hi (by omega)]⟩)
 subst hm0
 rw [List.drop_length] at hm
 rw [h,hm]
 rfl
theorem acc_all {α:Type}(l:List α) (hl:l.length≤100000000) (f:α→Nat) (F:Nat→Int→Int→Option Int) (K:Int→Option Int) (x0:Nat) (hx:x0+(l.map f).sum≤4000000000000000) (hstop:∀ m x,F (m+1) x (l.length:Int)=K x)
  (hstep:∀ i (h:i<l.length) m (x:Nat),F (m+1) (x:Int) (i:Int)=F m (wi ((x:Int)+(f l[i]:Int))) (wi ((i:Int)+1))):limF (fun k=>F k (x0:Int) 0)=K ((x0+(l.map f).sum:Nat):Int):=by
 have hle:∀ i,((l.take i).map f).sum≤(l.map f).sum:=fun i=>by
  have:l.map f=(l.take i).map f ++ (l.drop i).map f:=by rw [← List.map_append,List.take_append_drop]
  rw [this,List.sum_append]
  omega
 obtain ⟨s,hs,h⟩:=rounds_all (σ:=Int) (fun m s i=>F m s i) K l.length (fun i s=>s=((x0+((l.take i).map f).sum:Nat):Int)) (x0:Int) (by simp) (fun m s _=>hstop m s)
  (fun s i hi hI=>by
   subst hI
   have h1:=hle (i+1)
   have e1:((l.take (i+1)).map f).sum=((l.take i).map f).sum+f l[i]:=by rw [take_succ_get hi,List.map_append,List.sum_append]; simp
   rw [e1] at h1
   refine ⟨_,rfl,fun m=>?_⟩
   rw [hstep i hi m _,wi_next hi (by omega),wi_id (by omega) (by omega),e1]
   congr 1
   omega)
 rw [List.take_length] at hs
 rw [h,hs]
theorem test_weigh {t:TSTest}{xs:List TSPath}(e:t.Subs.map (·.c)=xs.map e_TSPath) (hx:xs.length≤100000000) (w:TSPath→Nat) (f g:TSPath→Option Int) (hf:∀ p,p ∈ xs→f p=some (w p:Int)) (hg:∀ p,p ∈ xs→g p=some (w p:Int)) (B:Nat) (hB:∀ p,p ∈ xs→w p≤1000000 * B) :
  ∃ v:Nat,v≤1000000 * (B+1)∧Z22 f t=some (v:Int)∧Z21 g t=some (v:Int)∧v=(if t.Kind=1 then 0 else if t.Kind=2 then 1 else if t.Kind=3 then 1000000 else if t.Kind=10∨t.Kind=11 then mxl (xs.map w) 0 else 1000):=by
 have hl:t.Subs.length=xs.length:=by have:=congrArg List.length e; simpa using this
 have hm:mxl (xs.map w) 0≤1000000 * B:=mxl_le _ _ _ (by omega) fun a ha=>by
  obtain ⟨p,hp,rfl⟩:=List.mem_map.1 ha
  exact hB p hp
 have h1:Z5e f t.Subs=some ((mxl (xs.map w) 0:Nat):Int):=by
  unfold Z5e
  refine max_all xs hx w (fun k n i=>Zw t.Subs f (fun n=>some n) k n i) (fun n=>some n) (fun m x=>?_) (fun i hi m x=>?_)
  ·show Zw t.Subs f _ (m+1) x (xs.length:Int)=_
   rw [Zw,if_neg (by rw [hl]; simp)]
  ·obtain ⟨r,r1,r2⟩:=pkid_at e hi
   show Zw t.Subs f _ (m+1) (x:Int) (i:Int)=Zw t.Subs f _ m _ _
   rw [Zw,if_pos (by rw [hl]; exact lt_pos hi),r1,Option.bind_some,r2,Option.bind_some,hf _ (List.getElem_mem hi),Option.bind_some]
 have h2:(limF fun kk=>Zp t g (fun (most1:Int)=>some most1) kk 0 0)=some ((mxl (xs.map w) 0:Nat):Int):=by
  refine max_all xs hx w (fun k n i=>Zp t g (fun n=>some n) k n i) (fun n=>some n) (fun m x=>?_) (fun i hi m x=>?_)
  ·show Zp t g _ (m+1) x (xs.length:Int)=_
   rw [Zp,if_neg (by rw [hl]; simp)]
  ·obtain ⟨r,r1,r2⟩:=pkid_at e hi
   show Zp t g _ (m+1) (x:Int) (i:Int)=Zp t g _ m _ _
   rw [Zp,if_pos (by rw [hl]; exact lt_pos hi),r1,Option.bind_some,r2,Option.bind_some,hg _ (List.getElem_mem hi),Option.bind_some]
 refine ⟨_,?_,?_,?_,rfl⟩
 ·repeat' split
  all_goals omega
 ·unfold Z22 Z5f
  rw [h1,Option.bind_some]
  by_cases a1:t.Kind=1
  ·simp [a1]
  ·by_cases a2:t.Kind=2
   ·simp [a2]
   ·by_cases a3:t.Kind=3
    ·simp [a3]
    ·by_cases a10:t.Kind=10
     ·simp [a10]
     ·by_cases a11:t.Kind=11
      ·simp [a11]
      ·simp [a1,a2,a3,a10,a11]
 ·unfold Z21
  rw [h2]
  by_cases a1:t.Kind=1
  ·simp [a1]
  ·by_cases a2:t.Kind=2
   ·simp [a2]
   ·by_cases a3:t.Kind=3
    ·simp [a3]
    ·by_cases a10:t.Kind=10
     ·simp [a10]
     ·by_cases a11:t.Kind=11
      ·simp [a11]
      ·simp [a1,a2,a3,a10,a11]
def sumW (tw:TSTest→Nat) (p:TSPath):Nat:=(p.Steps.map fun s=>(s.map tw).sum).sum
theorem path_weigh (p:TSPath) (tw:TSTest→Nat) (f g:TSPath→Option Int) (hf:∀ s,s ∈ p.Steps→∀ t,t ∈ s→Z22 f t=some (tw t:Int)∧Z21 g t=some (tw t:Int)) (h1:p.Steps.length≤100000000) (h2:∀ s,s ∈ p.Steps→s.length≤100000000) (hb:sumW tw p≤4000000000000000) :
  (limF fun kk1=>Zt p f (fun (n_1:Int)=>some n_1) kk1 0 0)=some ((sumW tw p:Nat):Int)∧(limF fun kk1=>Zr p g (fun (n_1:Int)=>some n_1) kk1 0 0)=some ((sumW tw p:Nat):Int):=by
 -- one step's tests, wherever the sum stands
 have inner1:∀(i:Nat) (hi:i<p.Steps.length) (x:Nat),x+(p.Steps[i].map tw).sum≤4000000000000000→∀ K:Int→Option Int,(limF fun kk=>Zs p.Steps[i] f p (i:Int) K kk (x:Int) 0)=K ((x+(p.Steps[i].map tw).sum:Nat):Int):=by
  intro i hi x hx K
  have hm:=List.getElem_mem hi
  refine acc_all p.Steps[i] (h2 _ hm) tw (fun k n j=>Zs p.Steps[i] f p (i:Int) K k n j) K x hx (fun m n=>?_) (fun j hj m n=>?_)
  ·show Zs p.Steps[i] f p (i:Int) K (m+1) n (p.Steps[i].length:Int)=_
   rw [Zs,if_neg (lt_neg _)]
  ·show Zs p.Steps[i] f p (i:Int) K (m+1) (n:Int) (j:Int)=Zs p.Steps[i] f p (i:Int) K m _ _
   rw [Zs,if_pos (lt_pos hj),at_some hj,Option.bind_some,(hf _ hm _ (List.getElem_mem hj)).1,Option.bind_some]
 have inner2:∀(i:Nat) (hi:i<p.Steps.length) (x:Nat),x+(p.Steps[i].map tw).sum≤4000000000000000→∀ K:Int→Option Int,(limF fun kk=>Zq p (i:Int) g K kk (x:Int) 0)=K ((x+(p.Steps[i].map tw).sum:Nat):Int):=by
  intro i hi x hx K
  have hm:=List.getElem_mem hi
  refine acc_all p.Steps[i] (h2 _ hm) tw (fun k n j=>Zq p (i:Int) g K k n j) K x hx (fun m n=>?_) (fun j hj m n=>?_)
  ·show Zq p (i:Int) g K (m+1) n (p.Steps[i].length:Int)=_
   rw [Zq,at_some hi,Option.bind_some,if_neg (lt_neg _)]
  ·show Zq p (i:Int) g K (m+1) (n:Int) (j:Int)=Zq p (i:Int) g K m _ _
   rw [Zq,at_some hi,Option.bind_some,if_pos (lt_pos hj),Option.bind_some,at_some hj,Option.bind_some,(hf _ hm _ (List.getElem_mem hj)).2,Option.bind_some]
 have hle:∀ i,((p.Steps.take i).map fun s=>(s.map tw).sum).sum≤sumW tw p:=fun i=>by
  have:(p.Steps.map fun s=>(s.map tw).sum)=((p.Steps.take i).map fun s=>(s.map tw).sum) ++ ((p.Steps.drop i).map fun s=>(s.map tw).sum):=by rw [← List.map_append,List.take_append_drop]
  unfold sumW
  rw [this,List.sum_append]
  omega
 have fin:∀(F:Nat→Int→Int→Option Int),(∀ m x,F (m+1) x (p.Steps.length:Int)=some x)→(∀ i (hi:i<p.Steps.length) m (x:Nat),x+(p.Steps[i].map tw).sum≤4000000000000000→F (m+1) (x:Int) (i:Int)=F m ((x+(p.Steps[i].map tw).sum:Nat):Int) (wi ((i:Int)+1)))→limF (fun k=>F k 0 0)=some ((sumW tw p:Nat):Int):=by
  intro F hstop hstep
  obtain ⟨s,hs,h⟩:=rounds_all (σ:=Int) (fun m s i=>F m s i) (fun n=>some n) p.Steps.length (fun i s=>s=((((p.Steps.take i).map fun s=>(s.map tw).sum).sum:Nat):Int)) 0 (by simp) (fun m s _=>hstop m s)
   (fun s i hi hI=>by
    subst hI
    have h1:=hle (i+1)
    have e1:((p.Steps.take (i+1)).map fun s=>(s.map tw).sum).sum=((p.Steps.take i).map fun s=>(s.map tw).sum).sum+(p.Steps[i].map tw).sum:=by rw [take_succ_get hi,List.map_append,List.sum_append]; simp
    rw [e1] at h1
    refine ⟨_,rfl,fun m=>?_⟩
    rw [hstep i hi m _ (by omega),wi_next hi (by omega),e1])
  rw [List.take_length] at hs
  rw [h,hs]
  rfl
 constructor
 ·refine fin (fun k n i=>Zt p f (fun (n_1:Int)=>some n_1) k n i) (fun m x=>?_) (fun i hi m x hx=>?_)
  ·show Zt p f _ (m+1) x (p.Steps.length:Int)=_
   rw [Zt,if_neg (lt_neg _)]
  ·show Zt p f _ (m+1) (x:Int) (i:Int)=Zt p f _ m _ _
   rw [Zt,if_pos (lt_pos hi),at_some hi,Option.bind_some]
   exact inner1 i hi x hx _
 ·refine fin (fun k n i=>Zr p g (fun (n_1:Int)=>some n_1) k n i) (fun m x=>?_) (fun i hi m x hx=>?_)
  ·show Zr p g _ (m+1) x (p.Steps.length:Int)=_
   rw [Zr,if_neg (lt_neg _)]
  ·show Zr p g _ (m+1) (x:Int) (i:Int)=Zr p g _ m _ _
   rw [Zr,if_pos (lt_pos hi)]
   exact inner2 i hi x hx _
theorem sum_mul (f g:TSTest→Nat) (c:Nat):∀ l:List TSTest,(∀ t,t ∈ l→f t≤c * g t)→(l.map f).sum≤c * (l.map g).sum
 | [],_=>by simp
 | t::r,h=>by
  have:=sum_mul f g c r fun x hx=>h x (List.mem_cons_of_mem _ hx)
  have:=h t (List.mem_cons_self ..)
  simp only [List.map_cons,List.sum_cons,Nat.mul_add]
  omega
theorem sum_mul2 (f:List TSTest→Nat) (g:List TSTest→Nat) (c:Nat):∀ l:List (List TSTest),(∀ t,t ∈ l→f t≤c * g t)→(l.map f).sum≤c * (l.map g).sum
 | [],_=>by simp
 | t::r,h=>by
  have:=sum_mul2 f g c r fun x hx=>h x (List.mem_cons_of_mem _ hx)
  have:=h t (List.mem_cons_self ..)
  simp only [List.map_cons,List.sum_cons,Nat.mul_add]
  omega
theorem path_in {l:List Raw}{xs:List TSPath}(e:l.map (·.c)=xs.map e_TSPath) {p:TSPath}(hp:p ∈ xs):bulkL (e_TSPath p)≤bl l:=by
 have e' : l.map eRaw=xs.map e_TSPath:=e
 unfold bl
 rw [e']
 exact bulk_in (List.mem_map_of_mem hp)
theorem weigh:∀(N:Nat) (l:List Raw),bl l≤N→N≤1048576→okL l→∀(xs:List TSPath),l.map (·.c)=xs.map e_TSPath→(∀ p,p ∈ xs→ok30 p)→∀ p,p ∈ xs→∃ w:Nat,w≤1000000 * bulkL (e_TSPath p)∧∀ k,bl l<k→Z17 k p=some (w:Int)∧Z16 k p=some (w:Int)
 | 0,l,h,_,_,xs,e,_,p,hp=>by
  have:=path_in e hp
  have h2:=bulk_path p
  omega
 | N+1,l,h,hN,hokl,xs,e,hok,p,hp=>by
  have hw:=within_of e
  have hpb:=path_in e hp
  have ih:∀ t,t ∈ flat xs→∃ v:Nat,v≤1000000 * bulkL (e_TSTest t)∧∀ m,bl l≤m→Z22 (Z17 m) t=some (v:Int)∧Z21 (Z16 m) t=some (v:Int):=by
   intro t ht
   obtain ⟨p1,s1,h1,h2,h3⟩:=flat_inv ht
   have hlt:=(hw.test p1 h1 s1 h2 t h3).1
   have hokt:=okL_of (ok_test hok ht).2.2.2.2.2.2.2
   obtain ⟨ys,ey,hoky⟩:=pkids_of t.Subs hokt
   have hyl:=(within_of ey).len
   have hin:=weigh N t.Subs (by omega) (by omega) hokt ys ey hoky
   obtain ⟨w,hwv⟩:∃ w:TSPath→Nat,∀ q,q ∈ ys→w q≤1000000 * bulkL (e_TSPath q)∧∀ k,bl t.Subs<k→Z17 k q=some (w q:Int)∧Z16 k q=some (w q:Int):=by
    classical
    exact ⟨fun q=>if hq:q ∈ ys then (hin q hq).choose else 0,fun q hq=>by simp only [dif_pos hq]; exact (hin q hq).choose_spec⟩
   have hB:∀ q,q ∈ ys→w q≤1000000 * bl t.Subs:=fun q hq=>by
    have h1:=(hwv q hq).1
    have h2:=path_in ey hq
    omega
   have hbt:=bulk_test t
   have one:∀ m,bl l≤m→∃ v:Nat,v≤1000000 * (bl t.Subs+1)∧Z22 (Z17 m) t=some (v:Int)∧Z21 (Z16 m) t=some (v:Int)∧v=(if t.Kind=1 then 0 else if t.Kind=2 then 1 else if t.Kind=3 then 1000000 else if t.Kind=10∨t.Kind=11 then mxl (ys.map w) 0 else 1000) :=
    fun m hm=>test_weigh ey (by omega) w _ _ (fun q hq=>((hwv q hq).2 m (by omega)).1) (fun q hq=>((hwv q hq).2 m (by omega)).2) (bl t.Subs) hB
   obtain ⟨v0,a1,_,_,a4⟩:=one (bl l) (Nat.le_refl _)
   refine ⟨v0,by omega,fun m hm=>?_⟩
   obtain ⟨v1,b1,b2,b3,b4⟩:=one m hm
   rw [← a4] at b4
   subst b4
   exact ⟨b2,b3⟩
  obtain ⟨tw,htw⟩:∃ tw:TSTest→Nat,∀ t,t ∈ flat xs→tw t≤1000000 * bulkL (e_TSTest t)∧∀ m,bl l≤m→Z22 (Z17 m) t=some (tw t:Int)∧Z21 (Z16 m) t=some (tw t:Int):=by
   classical
   exact ⟨fun q=>if hq:q ∈ flat xs then (ih q hq).choose else 0,fun q hq=>by simp only [dif_pos hq]; exact (ih q hq).choose_spec⟩
  have hbp:=bulk_path p
  have hsum:sumW tw p≤1000000 * bulkL (e_TSPath p):=by
   have h1:sumW tw p≤1000000 * (p.Steps.map fun s=>bulkE (s.map e_TSTest)).sum:=sum_mul2 _ _ _ _ fun s hs=>by
    rw [bulkE_map]
    exact sum_mul tw (fun t=>bulkL (e_TSTest t)) 1000000 s fun t ht=>(htw t (flat_mem hp hs ht)).1
   have h2:(p.Steps.map fun s=>bulkE (s.map e_TSTest)).sum≤bulkE (p.Steps.map (eSl 7 e_TSTest)):=by
    rw [bulkE_map (eSl 7 e_TSTest) p.Steps]
    exact sum_lee fun s _=>by rw [bulk_step]; omega
   have h3:(p.Steps.map fun s=>bulkE (s.map e_TSTest)).sum≤bulkL (e_TSPath p):=by omega
   exact Nat.le_trans h1 (Nat.mul_le_mul_left _ h3)
  refine ⟨sumW tw p,hsum,fun k hk=>?_⟩
  obtain ⟨m,rfl⟩:∃ m,k=m+1:=⟨k - 1,by omega⟩
  have:=path_weigh p tw (Z17 m) (Z16 m) (fun s hs t ht=>(htw t (flat_mem hp hs ht)).2 m (by omega)) (by have:=hw.steps p hp; omega) (fun s hs=>by have:=hw.step p hp s hs; omega) (by omega)
  rw [Z17,Z16]
  exact this
theorem pureWeightPaths:PureWeightPaths:=by
 intro p hok hb
 have hb' : bl [(⟨e_TSPath p,rfl⟩:Raw)]≤1048576:=by
  simp only [bulkVs,bulkV,bulkC] at hb
  unfold bl eRaw
  simp only [List.map_cons,List.map_nil,bulkE]
  omega
 have hokl:okL [(⟨e_TSPath p,rfl⟩:Raw)]:=⟨[p],rfl,fun x hx=>by rw [List.mem_singleton.1 hx]; exact hok⟩
 obtain ⟨r,r1,r2⟩:=check_same _ hb' hokl
 obtain ⟨w,_,hw⟩:=weigh _ _ (Nat.le_refl _) hb' hokl [p] rfl (fun x hx=>by rw [List.mem_singleton.1 hx]; exact hok) p (List.mem_singleton.2 rfl)
 have e1:Z6i p=some (w:Int):=limF_of (bl [(⟨e_TSPath p,rfl⟩:Raw)]+1) fun k hk=>(hw k (by omega)).1
 have e2:Z6h p=some (w:Int):=limF_of (bl [(⟨e_TSPath p,rfl⟩:Raw)]+1) fun k hk=>(hw k (by omega)).2
 unfold Z6k Z5h Z5g Z6j
 rw [listed_eq,Option.bind_some,r2,Option.bind_some,r1]
 simp only [e1,e2,Option.bind_some,if_true]
 by_cases h:r=0
 ·simp [h]
 ·simp [h]
end Go.Proofs.YtnfgjdbajefoiaaGreatDoorBv
-- squeezed
