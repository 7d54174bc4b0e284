/- The calculus: a function that puts a closure off to its end, which does nothing where the function returns. It proves nothing of any program. -/
import Derived.Test.YtnfgjdbajefoiaaGreatDoorBv23
import Derived.Recover
namespace Go.Proofs.YtnfgjdbajefoiaaGreatDoorBv
open Go
set_option linter.unusedVariables false
set_option linter.unusedSimpArgs false
def Idle (P:Program) (d:Deferred):Prop:=∀ w:World,∃(fv:Fn) (cap:Array Value) (f:FuncId) (args:Array Value),d.target = .fn fv cap∧(invoke d.target d.args).run P w = .ok (.enter f args) w ∧
 CallsD P f args .returning w fun e u' w' => (∃ v,e = .returned v)∧u' = .returning∧w' = w
def Puts (P:Program) (ops:Array Oper) (t N:Nat):Prop:=∀(a:Act) (w:World),N≤a.tmps.size→a.defers=[] →
 ∃(d:Deferred) (x:Value),Idle P d∧∀ Q:Exit→Act→World→Prop,Q .normal { a.put (some t) x with defers:=[d] } w→wpOps P ops Q (List.range ops.size) a w
section
variable {P : Program} {Γ : Glob}
theorem ends_results {E:Nat→Prop}{K0:Ctx}{n:Nat}{fn:Func}{rs:List ARes}{R:AV→Heap→Nat→Prop}{N:Nat}{s' : St}{a:Act}{w' : World}(hk:K0.n≤n) (hrs:fn.results.toList.mapM (compRes P)=some rs)
  (hr' : HR Γ E K0 N s' a w') (hq:∃ s1,Weak n s' s1∧∃ r,evResults s1 rs=some r∧∃ s2 r',Weak n ⟨upd (fun _=>none) 0 (some r),s1.h,s1.n⟩ s2∧s2.env 0=some r' ∧ R r' s2.h s2.n) :
  ∃ v,(results fn a.tmps).run P w' = .ok v w' ∧ ∃(cv:Value) (r:AV) (h' : Heap) (n' : Nat) (μ' κ' : Nat→Nat),Ending.returned v = .returned cv∧R r h' n' ∧ HeapOK Γ E w' μ' κ' h' n' ∧
     From E K0 (ctx E w' μ' κ' h' n')∧RelV (ctx E w' μ' κ' h' n') r cv:=by
 obtain ⟨s1,hw1,r,hres,s2,r',hw2,hr2,hR⟩:=hq
 obtain ⟨μ1,κ1,H1,HE1,F1,hdf,hN⟩:=hr'.weak hk hw1
 obtain ⟨cv,hrel,hrun⟩:=evResults_ok H1 HE1 hrs hres
 have h3:HR Γ E { K0 with ds:=a.defers } 0 ⟨upd (fun _=>none) 0 (some r),s1.h,s1.n⟩ { a with tmps:=#[cv] } w' := by
  refine ⟨μ1,κ1,H1,fun d v hv=>?_,⟨⟨F1.le.n,F1.le.μ,F1.le.κ,F1.le.S,F1.le.heap⟩,F1.size,F1.os,F1.tape,F1.output,F1.res⟩,rfl,Nat.zero_le _⟩
  by_cases e:d=0
  ·subst e
   have e1:(upd (fun _=>none) 0 (some r):Nat→Option AV) 0=some r:=upd_same _ _ _
   replace hv:=e1.symm.trans hv
   cases hv
   exact hrel
  ·have e1:(upd (fun _=>none) 0 (some r):Nat→Option AV) d=none:=upd_ne _ _ e
   replace hv:=e1.symm.trans hv
   cases hv
 obtain ⟨μ2,κ2,H2,HE2,F2,_,_⟩:=HR.weak (K0:={ K0 with ds:=a.defers }) (show ({ K0 with ds:=a.defers }:Ctx).n≤n from hk) h3 hw2
 exact ⟨cv,hrun,cv,r',s2.h,s2.n,μ2,κ2,rfl,hR,H2,⟨⟨F2.le.n,F2.le.μ,F2.le.κ,F2.le.S,F2.le.heap⟩,F2.size,F2.os,F2.tape,F2.output,F2.res⟩,HE2 0 r' hr2⟩
theorem acalls_of_dfr (hm:P.follows .mixedOrders=true) {f:FuncId}{af:AFunc}{args:List AV}{h:Heap}{n:Nat}{R:AV→Heap→Nat→Prop}(hf:compFunc P f=some af) {R0 C RD REST:ACode}{t:Nat}
  (hbody:af.body = .seq R0 (.seq C (.seq RD REST)))
  (hp:∀ fn c0 c1 c2 c3,P.funcs[f]? = some fn→fn.body=some (.seq c0 (.seq c1 (.seq c2 c3)))→∃ id ops,c2 = .region id ops false∧Puts P ops t fn.ntmps)
  (he:Sv P Γ n R0 (AThen (fun s=>Sv P Γ n C (AThen (fun s=>s.env t=none∧Sv P Γ n REST (Ends af.results n R) s) (Ends af.results n R)) s) (Ends af.results n R)) ⟨argEnv args,h,n⟩):ACalls P Γ f args h n R:=by
 simp only [compFunc,bind,Option.bind_eq_some_iff] at hf
 obtain ⟨fn,hfn,c,hc,b,hb,rs,hrs,hf⟩:=hf
 split at hf
 ·rename_i hfit
  simp only [Option.some.injEq] at hf
  subst hf
  simp only at hbody
  subst hbody
  obtain ⟨c0,cr,rfl,k0,kr⟩:=comp_inv hb
  obtain ⟨c1,cr',rfl,k1,kr'⟩:=comp_inv kr
  obtain ⟨c2,c3,rfl,k2,k3⟩:=comp_inv kr'
  obtain ⟨id,ops,rfl,hputs⟩:=hp fn c0 c1 c2 c3 hfn hc
  simp only [ACode.fits,Bool.and_eq_true] at hfit
  obtain ⟨f0,f1,f2,f3⟩:=hfit
  intro E w μ κ cargs H hl hr
  let R' : Ending→World→Prop:=fun e w' => ∃(cv:Value) (r:AV) (h' : Heap) (n' : Nat) (μ' κ' : Nat→Nat),e = .returned cv∧R r h' n' ∧ HeapOK Γ E w' μ' κ' h' n' ∧
   From E (ctx E w μ κ h n) (ctx E w' μ' κ' h' n')∧RelV (ctx E w' μ' κ' h' n') r cv
  show Calls P f cargs w R'
  let K0:Ctx:=ctx E w μ κ h n
  -- where the function returns ahead of it
  have early:∀(e:AExit) (s' : St) (a:Act) (w' : World),e≠.normal→Ends rs n R e s' → HR Γ E K0 fn.ntmps s' a w' → bodyPostD P fn R' e.as a w' := by
   intro e s' a w' hne hq hr'
   cases e with
   | normal=>exact absurd rfl hne
   | exit id=>exact hq.elim
   | ret =>
    have hdf:a.defers=[]:=by
     obtain ⟨_,_,_,_,_,hd,_⟩:=hr'
     exact hd
    show Leaves P fn a.tmps R' a.defers .returning w'
    rw [hdf]
    exact ends_results (Nat.le_refl _) hrs hr' hq
  -- behind it
  have late:∀(d:Deferred),Idle P d→∀(e:Exit) (a:Act) (w' : World),Post Γ E { K0 with ds:=[d] } fn.ntmps (Ends rs n R) e a w' → bodyPostD P fn R' e a w' := by
   rintro d hd e a w' ⟨e',s',rfl,hq,hr'⟩
   have fin:(∃ s1,Weak n s' s1∧∃ r,evResults s1 rs=some r∧∃ s2 r',Weak n ⟨upd (fun _=>none) 0 (some r),s1.h,s1.n⟩ s2∧s2.env 0=some r' ∧ R r' s2.h s2.n)→Leaves P fn a.tmps R' a.defers .returning w' := by
    intro hq
    have hdf:a.defers=[d]:=by
     obtain ⟨_,_,_,_,_,hd,_⟩:=hr'
     exact hd
    rw [hdf]
    obtain ⟨fv,cap,f',args',ht,hi,hcall⟩:=hd w'
    obtain ⟨v,hv,cv,r,h',n',μ',κ',e1,hR,H',F',hrel⟩:=ends_results (K0:={ K0 with ds:=[d] }) (Nat.le_refl _) hrs hr' hq
    obtain ⟨dt,da⟩:=d
    simp only at ht hi
    subst ht
    refine leaves_cons (by intro h; cases h) hi (hcall.mono ?_)
    rintro e u' w'' ⟨⟨v0,rfl⟩,rfl,rfl⟩
    exact ⟨v,hv,cv,r,h',n',μ',κ',e1,hR,H',⟨⟨F'.le.n,F'.le.μ,F'.le.κ,F'.le.S,F'.le.heap⟩,F'.size,F'.os,F'.tape,F'.output,F'.res⟩,hrel⟩
   cases e' with
   | normal=>exact fin hq
   | ret=>exact fin hq
   | exit id=>exact hq.elim
  have to:∀{K:St→Prop}{S:Act→World→Prop}(hk:∀ s a w,K s→HR Γ E K0 fn.ntmps s a w→S a w) {e:Exit}{a:Act}{w:World},Post Γ E K0 fn.ntmps (AThen K (Ends rs n R)) e a w→Exit.then S (bodyPostD P fn R') e a w:=by
   rintro K S hk e a w ⟨e',s,rfl,hq,hr⟩
   cases e' with
   | normal=>exact hk s a w hq hr
   | exit id=>exact early (.exit id) s a w (by intro h; cases h) hq hr
   | ret=>exact early .ret s a w (by intro h; cases h) hq hr
  have hr0:HR Γ E K0 fn.ntmps ⟨argEnv args,h,n⟩ { tmps:=cargs ++ Array.replicate (fn.ntmps - cargs.size) undef,defers:=[] } w:=by
   refine ⟨μ,κ,H,fun d v hv=>?_,.refl _ _,rfl,by simp; omega⟩
   show RelV _ v ((cargs ++ Array.replicate (fn.ntmps - cargs.size) undef).getD d undef)
   have hd:d<cargs.size:=by rw [hl]; exact (List.getElem?_eq_some_iff.1 hv).1
   have:(cargs ++ Array.replicate (fn.ntmps - cargs.size) undef).getD d undef=cargs.getD d undef:=by
    rw [Array.getD_eq_getD_getElem?,Array.getD_eq_getD_getElem?,Array.getElem?_append_left hd]
   rw [this]
   exact hr d v hv
  refine calls_of_wp_defers hfn hc (wp_seq (wp_mono (he E K0 fn.ntmps c0 _ w hm (Nat.le_refl _) k0 f0 hr0) fun e a w hp0=>to (fun s1 a1 w1 q1 r1=>?_) hp0))
  refine wp_seq (wp_mono (q1 E K0 fn.ntmps c1 a1 w1 hm (Nat.le_refl _) k1 f1 r1) fun e a w hp1=>to (fun s2 a2 w2 q2 r2=>?_) hp1)
  obtain ⟨ht,q2⟩:=q2
  obtain ⟨μ2,κ2,H2,HE2,F2,hd2,hN2⟩:=r2
  obtain ⟨d,x,hidle,hput⟩:=hputs a2 w2 hN2 hd2
  refine wp_seq (wp_region (hput _ ?_))
  refine wp_mono (q2 E { K0 with ds:=[d] } fn.ntmps c3 _ w2 hm (Nat.le_refl _) k3 f3 ⟨μ2,κ2,H2,fun i v hv=>?_,⟨⟨F2.le.n,F2.le.μ,F2.le.κ,F2.le.S,F2.le.heap⟩,F2.size,F2.os,F2.tape,F2.output,F2.res⟩,rfl,?_⟩) (late d hidle)
  ·have hit:i≠t:=by intro h; subst h; rw [ht] at hv; cases hv
   have:=HE2 i v hv
   show RelV _ v ((a2.put (some t) x).tmps.getD i undef)
   have e1:(a2.put (some t) x).tmps.getD i undef=a2.tmps.getD i undef:=by
    simp only [Act.put,Array.getD_eq_getD_getElem?,Array.getElem?_setIfInBounds]
    rw [if_neg (fun h=>hit h.symm)]
   rw [e1]
   exact this
  ·show fn.ntmps≤(a2.put (some t) x).tmps.size
   rw [put_size]
   exact hN2
 ·cases hf
end
end Go.Proofs.YtnfgjdbajefoiaaGreatDoorBv
