/- The law TrailSays, over plain values, in parts. No program is in sight. -/
import Derived.Test.YtngonchkhmjenaaGreatDoorShTrailSays
import Derived.Test.YtngonchkhmjenaaGreatDoorBv23
import Derived.Test.YtngonchkhmjenaaGreatDoorBv44
import Derived.Test.YtngonchkhmjenaaGreatDoorBv46
import Derived.Test.YtngonchkhmjenaaGreatDoorBv47
import Derived.Lib.ItoaLen
import Derived.Test.YtngonchkhmjenaaGreatDoorBv48
/- strings.ToLower of a text of ASCII: letter by letter. No program is in sight. -/
namespace Go.Proofs.YtngonchkhmjenaaGreatDoorBv
open Go
set_option linter.unusedSimpArgs false
set_option linter.unusedVariables false
def isUp (c:UInt8):Bool:=decide (65≤c.toNat)&&decide (c.toNat≤90)
def loB (c:UInt8):UInt8:=if isUp c then UInt8.ofNat (c.toNat+32) else c
theorem isUp_eq (c:UInt8):((decide (65≤(c.toNat:Int)))&&(decide ((c.toNat:Int)≤90)))=isUp c:=by
 unfold isUp
 congr 1
 ·rw [Bool.eq_iff_iff]; simp; omega
 ·rw [Bool.eq_iff_iff]; simp; omega
theorem loB_up {c:UInt8}(h:isUp c=true):UInt8.ofNat (wr .u8 ((c.toNat:Int)+32)).toNat=loB c:=by
 have h' := h
 unfold isUp at h'
 simp only [Bool.and_eq_true,decide_eq_true_eq] at h'
 unfold loB
 rw [if_pos h,wr_u8]
 congr 1
 omega
theorem map_sameL {l:List UInt8}(h:∀ c,c ∈ l→isUp c=false):l.map loB=l:=by
 refine (List.map_congr_left (g:=id) fun c hc=>?_).trans (List.map_id _)
 unfold loB
 rw [h c hc]
 rfl
theorem lo_l0 (s:List UInt8) (hl:s.length≤140737488355328) (ha:∀ c,c ∈ s→c.toNat<128) (K:Bool→Bool→Option (List UInt8)):∀(d i:Nat) (b:Bool),i+d=s.length→∀ m,Z14 s K (m+d+1) b (i:Int)=K true (b||(s.drop i).any isUp)
 | 0,i,b,hi,m=>by
  rw [Z14,if_neg (by simp only [decide_eq_true_eq]; omega),List.drop_eq_nil_of_le (by omega)]
  simp
 | d+1,i,b,hi,m=>by
  have h:i<s.length:=by omega
  have:=ha s[i] (List.getElem_mem h)
  rw [Z14,if_pos (by simp only [decide_eq_true_eq]; omega),at_some h,Option.bind_some,if_neg (by simp only [decide_eq_true_eq]; omega),isUp_eq,wi_id (by omega) (by omega),show (i:Int)+1=((i+1:Nat):Int) by omega,
   show m+(d+1)=m+d+1 by omega,lo_l0 s hl ha K d (i+1) _ (by omega) m,List.drop_eq_getElem_cons h,List.any_cons,Bool.or_assoc]
theorem lo_l1 (s:List UInt8) (hl:s.length≤1000000000) (K:List UInt8→Int→Option (List UInt8)):∀(d i p:Nat),i+d=s.length→p≤i→(∀ c,c ∈ (s.take i).drop p→isUp c=false) →
  ∃ p',p' ≤ s.length∧(∀ c,c ∈ s.drop p' → isUp c=false)∧∀ m,Z9 s K (m+d+1) ((s.take p).map loB) (p:Int) (i:Int)=K ((s.take p').map loB) (p' : Int)
 | 0,i,p,hi,hp,hn=>by
  obtain rfl:i=s.length:=by omega
  refine ⟨p,hp,by rw [List.take_length] at hn; exact hn,fun m=>?_⟩
  rw [Z9,if_neg (by simp)]
 | d+1,i,p,hi,hp,hn=>by
  have h:i<s.length:=by omega
  have tk:s.take (i+1)=s.take i ++ [s[i]]:=by rw [List.take_add_one,List.getElem?_eq_getElem h]; rfl
  by_cases hc:isUp s[i]=true
  ·obtain ⟨p',h1,h2,h3⟩:=lo_l1 s hl K d (i+1) (i+1) (by omega) (Nat.le_refl _) (fun c hc=>by rw [List.drop_eq_nil_of_le (by rw [List.length_take]; omega)] at hc; cases hc)
   refine ⟨p',h1,h2,fun m=>?_⟩
   have hup:=loB_up hc
   have hrange:0≤wr .u8 ((s[i].toNat:Int)+32)∧wr .u8 ((s[i].toNat:Int)+32)<256:=by rw [wr_u8]; omega
   have step:∀ b:List UInt8,b=(s.take i).map loB→Z3e s[i] (i:Int) s (Z9 s K (m+d+1)) K b=K ((s.take p').map loB) (p' : Int):=by
    rintro b rfl
    unfold Z3e Z3d Z42 bWriteByte?
    rw [if_pos ⟨by rw [List.length_map,List.length_take]; omega,hrange.1,hrange.2⟩,Option.bind_some,hup,wi_id (by omega) (by omega),show (i:Int)+1=((i+1:Nat):Int) by omega]
    have:=h3 m
    rw [tk,List.map_append] at this
    exact this
   rw [Z9,if_pos (by simp only [decide_eq_true_eq]; omega),at_some h,Option.bind_some,isUp_eq,if_pos hc,show m+(d+1)=m+d+1 by omega]
   by_cases hpi:p<i
   ·rw [if_pos (by simp only [decide_eq_true_eq]; omega),sub_nat (by omega) (by omega),Option.bind_some]
    show (bWriteString? ((s.take p).map loB) ((s.take i).drop p)).bind _=_
    unfold bWriteString?
    rw [if_pos (by rw [List.length_map,List.length_take,List.length_drop,List.length_take]; omega),Option.bind_some]
    refine step _ ?_
    conv=>lhs; arg 2; rw [← map_sameL hn]
    rw [← List.map_append]
    congr 1
    have e:s.take p=(s.take i).take p:=by rw [List.take_take,Nat.min_eq_left hp]
    rw [e,List.take_append_drop]
   ·obtain rfl:p=i:=by omega
    rw [if_neg (by simp)]
    exact step _ rfl
  ·obtain ⟨p',h1,h2,h3⟩:=lo_l1 s hl K d (i+1) p (by omega) (by omega) (fun c hc' => by
    rw [tk,List.drop_append_of_le_length (by rw [List.length_take]; omega)] at hc'
    rcases List.mem_append.1 hc' with h | h
    ·exact hn c h
    ·rw [List.mem_singleton] at h; subst h; simpa using hc)
   refine ⟨p',h1,h2,fun m=>?_⟩
   rw [Z9,if_pos (by simp only [decide_eq_true_eq]; omega),at_some h,Option.bind_some,isUp_eq,if_neg hc,show m+(d+1)=m+d+1 by omega]
   unfold Z3d
   rw [wi_id (by omega) (by omega),show (i:Int)+1=((i+1:Nat):Int) by omega]
   exact h3 m
theorem toLower_eq (s:List UInt8) (hl:s.length≤1000000000) (ha:∀ c,c ∈ s→c.toNat<128):Z4w s=some (s.map loB):=by
 unfold Z4w
 refine lim_add (s.length+1) fun k=>?_
 rw [← Nat.add_assoc]
 have h0:=lo_l0 s (by omega) ha
 rw [show (0:Int)=((0:Nat):Int) from rfl,h0 _ s.length 0 false (by omega) k,if_pos rfl,List.drop_zero,Bool.false_or]
 by_cases hlow:s.any isUp=true
 ·rw [hlow,if_neg (by simp)]
  show (bGrow? (s.length:Int)).bind _=_
  unfold bGrow?
  rw [if_pos (by omega),Option.bind_some]
  refine lim_add (s.length+1) fun m=>?_
  obtain ⟨p',h1,h2,h3⟩:=lo_l1 s hl (fun (b_1:(List UInt8)) (pos_1:Int) => 
       if decide (pos_1<(s.length:Int)) then
        (sub? s pos_1 (s.length:Int)).bind fun r_4 =>
        (Zi b_1 r_4).bind fun r_5 =>
        Z2m r_5
       else
        Z2m b_1) s.length 0 0 (by omega) (Nat.le_refl _) (fun c hc=>by simp at hc)
  have h4:=h3 m
  simp only [List.take_zero,List.map_nil] at h4
  rw [← Nat.add_assoc]
  refine h4.trans ?_
  unfold Z2m
  by_cases hp:p' < s.length
  ·rw [if_pos (by simp only [decide_eq_true_eq]; omega),sub_drop h1,Option.bind_some]
   show (bWriteString? ((s.take p').map loB) (s.drop p')).bind _=_
   unfold bWriteString?
   rw [if_pos (by rw [List.length_map,List.length_take,List.length_drop]; omega),Option.bind_some]
   congr 1
   conv=>lhs; arg 2; rw [← map_sameL h2]
   rw [← List.map_append,List.take_append_drop]
  ·rw [if_neg (by simp only [decide_eq_true_eq]; omega)]
   rw [List.take_of_length_le (by omega)]
 ·have hf:s.any isUp=false:=by simpa using hlow
  rw [hf,if_pos (by simp),map_sameL fun c hc=>by simpa using List.any_eq_false.1 hf c hc]
end Go.Proofs.YtngonchkhmjenaaGreatDoorBv
/- Bytes of addresses: what is plain, triples, digits of sixteen. No program is in sight. -/
namespace Go.Proofs.YtngonchkhmjenaaGreatDoorBv
open Go
set_option linter.unusedSimpArgs false
set_option linter.unusedVariables false
def hv (c:UInt8):Int:=Lib.indexByte [48,49,50,51,52,53,54,55,56,57,65,66,67,68,69,70] (if 97≤c.toNat∧c.toNat≤102 then UInt8.ofNat (c.toNat - 32) else c)
theorem hv_all (c:UInt8) : -1≤hv c∧hv c<16∧(127<c.toNat→hv c<0):=by
 have:=u8_all (p:=fun c=>decide (-1≤hv c∧hv c<16∧(127<c.toNat→hv c<0))) (by decide +kernel) c
 exact of_decide_eq_true this
theorem value_eq (c:UInt8):Z1m (c.toNat:Int)=some (hv c):=by
 have:=u8_all (p:=fun c=>decide (Z1m (c.toNat:Int)=some (hv c))) (by decide +kernel) c
 simpa using this
def lowV (c:UInt8):Int:=Lib.index [48,49,50,51,52,53,54,55,56,57,97,98,99,100,101,102] [loB c]
theorem lowV_eq (c:UInt8) (h:c.toNat≤127):lowV c=hv c:=by
 have:=u8_all (p:=fun c=>decide (c.toNat≤127→lowV c=hv c)) (by decide +kernel) c
 simp only [decide_eq_true_eq] at this
 exact this h
theorem byts_one (c:UInt8):byts [(c.toNat:Int)]=[c]:=by
 unfold byts
 simp
noncomputable def plainB (c:UInt8):Bool:=(Z1o (c.toNat:Int)).getD false
theorem plain_eq (c:UInt8):Z1o (c.toNat:Int)=some (plainB c):=by
 have:=u8_all (p:=fun c=>decide (Z1o (c.toNat:Int)=some (plainB c))) (by decide +kernel) c
 simpa using this
noncomputable def tri (c:UInt8):List UInt8:=(Z2b (c.toNat:Int)).getD []
theorem triple_eq (c:UInt8):Z2b (c.toNat:Int)=some (tri c)∧(tri c).length=3:=by
 have:=u8_all (p:=fun c=>decide (Z2b (c.toNat:Int)=some (tri c)∧(tri c).length=3)) (by decide +kernel) c
 simpa using this
theorem isPlain_eq (c:UInt8):Z3h (c.toNat:Int)=some (plainB c):=by
 have:=u8_all (p:=fun c=>decide (Z3h (c.toNat:Int)=some (plainB c))) (by decide +kernel) c
 simpa using this
noncomputable def enc1 (c:UInt8):List UInt8:=if plainB c then [c] else tri c
theorem enc1_len (c:UInt8):(enc1 c).length≤3:=by
 unfold enc1
 split
 ·simp
 ·rw [(triple_eq c).2]; exact Nat.le_refl _
noncomputable def encL (s:List UInt8):List UInt8:=s.flatMap enc1
theorem encL_len (s:List UInt8):(encL s).length≤3 * s.length:=by
 induction s with
 | nil=>simp [encL]
 | cons c r ih =>
  unfold encL at ih ⊢
  rw [List.flatMap_cons,List.length_append,List.length_cons]
  have:=enc1_len c
  omega
theorem encL_take {s:List UInt8}{i:Nat}(h:i<s.length):encL (s.take (i+1))=encL (s.take i) ++ enc1 s[i]:=by
 have tk:s.take (i+1)=s.take i ++ [s[i]]:=by rw [List.take_add_one,List.getElem?_eq_getElem h]; rfl
 unfold encL
 rw [tk,List.flatMap_append]
 simp
noncomputable def tri4 (x:Int):Option (List UInt8) :=
 (sub? [48,49,50,51,52,53,54,55,56,57,65,66,67,68,69,70] (wr .u8 (x.tdiv 16)) (wr .u8 ((wr .u8 (x.tdiv 16))+1))).bind fun r_2 =>
 (cat? [37] r_2).bind fun r_3 =>
 (sub? [48,49,50,51,52,53,54,55,56,57,65,66,67,68,69,70] (x.tmod 16) (wr .u8 ((x.tmod 16)+1))).bind fun r_4 =>
 (cat? r_3 r_4)
theorem tri4_eq (c:UInt8):tri4 (c.toNat:Int)=some (tri c):=by
 have:=u8_all (p:=fun c=>decide (tri4 (c.toNat:Int)=some (tri c))) (by decide +kernel) c
 simpa using this
theorem encoded_loop (s:List UInt8) (hl:s.length≤10000000) (K:List UInt8→Option (List UInt8)):∀(d i:Nat),i+d=s.length→∀ m,Zp s K (m+d+1) (encL (s.take i)) (ints s) (i:Int)=K (encL s)
 | 0,i,hi,m=>by
  obtain rfl:i=s.length:=by omega
  rw [Zp,if_neg (by rw [ints_length]; simp),List.take_length]
 | d+1,i,hi,m=>by
  have h:i<s.length:=by omega
  have hlen:=encL_len (s.take i)
  rw [List.length_take] at hlen
  have ih:=encoded_loop s hl K d (i+1) (by omega) m
  have a1:at? (ints s) (i:Int)=some (s[i].toNat:Int):=by rw [at_nat,ints_get,List.getElem?_eq_getElem h]; rfl
  rw [Zp,if_pos (by rw [ints_length]; simp only [decide_eq_true_eq]; omega),a1,Option.bind_some,isPlain_eq,Option.bind_some,show m+(d+1)=m+d+1 by omega]
  unfold Z4z
  rw [wi_id (by omega) (by omega),show (i:Int)+1=((i+1:Nat):Int) by omega]
  cases hp:plainB s[i] with
  | true =>
   rw [if_pos rfl,byts_one,catq (by simp; omega),Option.bind_some]
   rw [encL_take h,enc1,hp,if_pos rfl] at ih
   exact ih
  | false =>
   rw [if_neg (by simp)]
   have e:=tri4_eq s[i]
   unfold tri4 at e
   have e' : ∀ F:List UInt8→Option (List UInt8),((sub? [48,49,50,51,52,53,54,55,56,57,65,66,67,68,69,70] (wr .u8 ((s[i].toNat:Int).tdiv 16)) (wr .u8 ((wr .u8 ((s[i].toNat:Int).tdiv 16))+1))).bind fun r_2 =>
     (cat? [37] r_2).bind fun r_3 =>
     (sub? [48,49,50,51,52,53,54,55,56,57,65,66,67,68,69,70] ((s[i].toNat:Int).tmod 16) (wr .u8 (((s[i].toNat:Int).tmod 16)+1))).bind fun r_4 =>
     (cat? r_3 r_4).bind F)=F (tri s[i]):=by
    intro F
    have:=congrArg (fun o=>o.bind F) e
    simp only [Option.bind_assoc,Option.bind_some] at this
    exact this
   rw [e',catq (by rw [(triple_eq _).2]; omega),Option.bind_some]
   rw [encL_take h,enc1,hp,if_neg (by simp)] at ih
   exact ih
theorem encoded_eq (s:List UInt8) (hl:s.length≤10000000):Z2n s=some (encL s):=by
 unfold Z2n
 refine lim_add (s.length+1) fun m=>?_
 exact encoded_loop s hl _ s.length 0 (by omega) m
/-! ### read back -/
def decU:List UInt8→Option (List Tunit)
 | []=>some []
 | [c]=>if c=37 then none else some [⟨(c.toNat:Int),false⟩]
 | [c,d]=>if c=37 then none else (decU [d]).map (⟨(c.toNat:Int),false⟩::·)
 | c::a::b::r=>if c=37 then (if hv a<0∨hv b<0 then none else (decU r).map (⟨16 * hv a+hv b,true⟩::·)) else (decU (a::b::r)).map (⟨(c.toNat:Int),false⟩::·)
theorem decU_plain {c:UInt8}{r:List UInt8}(h:c≠37):decU (c::r)=(decU r).map (⟨(c.toNat:Int),false⟩::·):=by
 match r with
 | []=>simp [decU,h]
 | [d]=>conv=>lhs; rw [decU,if_neg h]
 | a::b::r=>conv=>lhs; rw [decU,if_neg h]
theorem or_val:∀ i j:Fin 16,wr .u8 (bitsV .or .i64 (shl .i64 ((i.val:Nat):Int) 4) ((j.val:Nat):Int))=16 * ((i.val:Nat):Int)+((j.val:Nat):Int):=by decide +kernel
theorem or_eq {x y:Int}(h1:0≤x) (h2:x<16) (h3:0≤y) (h4:y<16):wr .u8 (bitsV .or .i64 (shl .i64 x 4) y)=16 * x+y:=by
 obtain ⟨i,rfl⟩:∃ i:Nat,x=i:=⟨x.toNat,by omega⟩
 obtain ⟨j,rfl⟩:∃ j:Nat,y=j:=⟨y.toNat,by omega⟩
 exact or_val ⟨i,by omega⟩ ⟨j,by omega⟩
theorem read_plain {c:UInt8}{r:List UInt8}(h:c≠37):Zw (c::r)=some ((c.toNat:Int),1):=by
 have h' : ¬ (c.toNat:Int)=37:=fun e=>h (UInt8.toNat_inj.1 (by simp; omega))
 unfold Zw
 rw [show at? (c::r) 0=some c from rfl,Option.bind_some,if_pos (by simpa using h'),Option.bind_some]
theorem read_short {r:List UInt8}(h:r.length<2):Zw (37::r)=some (0,0):=by
 unfold Zw Z1n
 rw [show at? (37::r) 0=some 37 from rfl,Option.bind_some,if_neg (by decide),if_pos (by simp only [decide_eq_true_eq,List.length_cons]; omega),if_pos rfl]
theorem read_tri {a b:UInt8}{r:List UInt8}:Zw (37::a::b::r)=if hv a<0∨hv b<0 then some (0,0) else some (16 * hv a+hv b,3):=by
 have ha:=hv_all a
 have hb:=hv_all b
 have a0:at? (37::a::b::r) 0=some 37:=rfl
 have a1:at? (37::a::b::r) 1=some a:=rfl
 have a2:at? (37::a::b::r) 2=some b:=rfl
 have bad:Z1n (37::a::b::r) true=some (0,0):=rfl
 unfold Zw
 rw [a0,Option.bind_some,if_neg (by decide),if_neg (by simp only [decide_eq_true_eq,List.length_cons]; omega),a1,Option.bind_some,value_eq,Option.bind_some,bad]
 by_cases h1:hv a<0
 ·rw [if_pos (show decide (hv a<0)=true by simpa using h1),if_pos (show hv a<0∨hv b<0 from .inl h1)]
 ·rw [if_neg (show ¬ decide (hv a<0)=true by simpa using h1),a2,Option.bind_some,value_eq,Option.bind_some]
  by_cases h2:hv b<0
  ·rw [show decide (hv b<0)=true by simpa using h2,bad,if_pos (show hv a<0∨hv b<0 from .inr h2)]
  ·rw [show decide (hv b<0)=false by simpa using h2,if_neg (show ¬ (hv a<0∨hv b<0) by omega)]
   unfold Z1n
   rw [if_neg (by simp),a1,a2]
   simp only [Option.bind_some,value_eq]
   rw [or_eq (by omega) (by omega) (by omega) (by omega)]
def uF (u:Tunit):Int:=u.f_c
theorem decode_loop (s0:List UInt8):∀(N:Nat) (s:List UInt8) (out:List Int),s.length<N→s.length+out.length≤10000000 →
  Zf (fun out1=>some (byts out1,0)) N s out=match decU s with | some l=>some (byts (out ++ l.map uF),0) | none=>some ([],3)
 | 0,s,out,h,_=>by omega
 | N+1,[],out,h,ho=>by
  rw [Zf,if_neg (by simp)]
  simp [decU]
 | N+1,c::r,out,h,ho=>by
  simp only [List.length_cons] at h ho
  rw [Zf,if_pos (by simp)]
  by_cases hc:c=37
  ·subst hc
   match r,h,ho with
   | [],h,ho=>rw [read_short (by simp),Option.bind_some,if_pos (by decide)]; rfl
   | [d],h,ho=>rw [read_short (by simp),Option.bind_some,if_pos (by decide)]; rfl
   | a::b::r,h,ho =>
    simp only [List.length_cons] at h ho
    rw [read_tri,decU,if_pos rfl]
    by_cases hb:hv a<0∨hv b<0
    ·rw [if_pos hb,if_pos hb,Option.bind_some,if_pos (by decide)]
    ·rw [if_neg hb,if_neg hb,Option.bind_some,if_neg (by simp),appq (by simp; omega),Option.bind_some]
     show (sub? (37::a::b::r) ((3:Nat):Int) ((37::a::b::r).length:Int)).bind _=_
     rw [sub_drop (by simp),Option.bind_some]
     show Zf _ N r _=_
     rw [decode_loop s0 N r _ (by omega) (by simp; omega)]
     cases decU r with
     | none=>rfl
     | some l=>simp [uF]
  ·rw [read_plain hc,Option.bind_some,if_neg (by simp),appq (by simp; omega),Option.bind_some]
   show (sub? (c::r) ((1:Nat):Int) ((c::r).length:Int)).bind _=_
   rw [sub_drop (by simp),Option.bind_some]
   show Zf _ N r _=_
   rw [decode_loop s0 N r _ (by omega) (by simp; omega),decU_plain hc]
   cases decU r with
   | none=>rfl
   | some l=>simp [uF]
theorem decode_eq (s:List UInt8) (hl:s.length≤10000000):Z32 s=match decU s with | some l=>some (byts (l.map uF),0) | none=>some ([],3):=by
 unfold Z32
 refine lim_eq (s.length+1) fun k hk=>?_
 have:=decode_loop s k s [] (by omega) (by simpa using hl)
 simpa using this
theorem fn1_eq (c:UInt8) (h:c.toNat≤127):Z1x (c.toNat:Int)=some (hv c):=by
 unfold Z1x
 rw [byts_one,toLower_eq [c] (by simp) (by intro d hd; rw [List.mem_singleton] at hd; subst hd; omega),Option.bind_some]
 show (index? _ [loB c]).bind _=_
 unfold index?
 rw [if_pos (by simp),Option.bind_some]
 exact congrArg some (lowV_eq c h)
theorem units_loop (s:List UInt8) (hl:s.length≤10000000):∀(N k:Nat) (out:List Tunit),s.length - k<N→k≤s.length→out.length≤k →
  Z3 s (fun out1=>some (out1,true)) N out (k:Int)=match decU (s.drop k) with | some l=>some (out ++ l,true) | none=>some ([],false)
 | 0,k,out,h,_,_=>by omega
 | N+1,k,out,h,hk,ho=>by
  rw [Z3]
  by_cases h1:k<s.length
  ·rw [if_pos (by simp only [decide_eq_true_eq]; omega),at_some h1,Option.bind_some,List.drop_eq_getElem_cons h1]
   unfold Z3f
   by_cases hc:s[k]=37
   ·rw [if_neg (by simp [hc]),wi_id (by omega) (by omega)]
    have bad:Z15 s (k:Int) (Z3 s (fun out1=>some (out1,true)) N) (fun out1=>some (out1,true)) out true=some ([],false):=by
     unfold Z15; rw [if_pos rfl]
    by_cases h3:k+2<s.length
    ·have e2:s.drop (k+1)=s[k+1]::s[k+2]::s.drop (k+3):=by rw [List.drop_eq_getElem_cons (show k+1<s.length by omega),List.drop_eq_getElem_cons h3]
     have n1:(k:Int)+1=((k+1:Nat):Int):=by omega
     have n2:(k:Int)+2=((k+2:Nat):Int):=by omega
     have ha:=hv_all s[k+1]
     have hb:=hv_all s[k+2]
     rw [e2,decU,if_pos hc,if_neg (by simp only [decide_eq_true_eq]; omega),wi_id (by omega) (by omega),n1,n2,at_some (show k+1<s.length by omega),Option.bind_some]
     by_cases c1:127<s[k+1].toNat
     ·rw [if_pos (by simp only [decide_eq_true_eq]; omega),bad,if_pos (.inl (ha.2.2 c1))]
     rw [if_neg (by simp only [decide_eq_true_eq]; omega),at_some h3,Option.bind_some]
     by_cases c2:127<s[k+2].toNat
     ·rw [if_pos (by simp only [decide_eq_true_eq]; omega),bad,if_pos (.inr (hb.2.2 c2))]
     rw [if_neg (by simp only [decide_eq_true_eq]; omega),Option.bind_some,fn1_eq _ (by omega),Option.bind_some]
     by_cases c3:hv s[k+1]<0
     ·rw [if_pos (by simpa using c3),bad,if_pos (.inl c3)]
     rw [if_neg (by simpa using c3),Option.bind_some,fn1_eq _ (by omega),Option.bind_some]
     by_cases c4:hv s[k+2]<0
     ·rw [show decide (hv s[k+2]<0)=true by simpa using c4,bad,if_pos (.inr c4)]
     rw [show decide (hv s[k+2]<0)=false by simpa using c4,if_neg (by omega)]
     unfold Z15 Z3f
     rw [if_neg (by simp),wi_id (n:=(k:Int)+1) (by omega) (by omega),wi_id (n:=(k:Int)+2) (by omega) (by omega),n1,n2,at_some (show k+1<s.length by omega),at_some h3]
     simp only [Option.bind_some]
     rw [fn1_eq _ (by omega),fn1_eq _ (by omega),Option.bind_some,Option.bind_some,wi_id (n:=16 * hv s[k+1]) (by omega) (by omega),wi_id (n:=16 * hv s[k+1]+hv s[k+2]) (by omega) (by omega),wr_u8,show (16 * hv s[k+1]+hv s[k+2]) % 256=16 * hv s[k+1]+hv s[k+2] by omega,appq (by simp; omega),Option.bind_some,
      wi_id (by omega) (by omega),show ((k+2:Nat):Int)+1=((k+3:Nat):Int) by omega,units_loop s hl N (k+3) _ (by omega) (by omega) (by simp; omega)]
     cases decU (s.drop (k+3)) with
     | none=>rfl
     | some l=>simp
    ·rw [if_pos (by simp only [decide_eq_true_eq]; omega),bad]
     have hsh:(s.drop (k+1)).length<2:=by rw [List.length_drop]; omega
     rw [hc]
     match s.drop (k+1),hsh with
     | [],_=>rfl
     | [d],_=>rfl
   ·have hc' : ¬ (s[k].toNat:Int)=37:=fun e=>hc (UInt8.toNat_inj.1 (by simp; omega))
    rw [if_pos (by simpa using hc'),Option.bind_some,appq (by simp; omega),Option.bind_some,wi_id (by omega) (by omega),show (k:Int)+1=((k+1:Nat):Int) by omega,units_loop s hl N (k+1) _ (by omega) (by omega) (by simp; omega),decU_plain hc]
    cases decU (s.drop (k+1)) with
    | none=>rfl
    | some l=>simp
  ·rw [if_neg (by simp only [decide_eq_true_eq]; omega),List.drop_eq_nil_of_le (by omega)]
   simp [decU]
theorem units_eq (s:List UInt8) (hl:s.length≤10000000):Z3g s=match decU s with | some l=>some (l,true) | none=>some ([],false):=by
 unfold Z3g
 refine lim_eq (s.length+1) fun k hk=>?_
 have:=units_loop s hl k 0 [] (by omega) (by omega) (by simp)
 simpa using this
theorem decU_len:∀(N:Nat) (s:List UInt8) (l:List Tunit),s.length≤N→decU s=some l→l.length≤s.length
 | _,[],l,_,h=>by cases h; simp
 | 0,c::r,l,h,_=>by simp at h
 | N+1,c::r,l,hN,h=>by
  simp only [List.length_cons] at hN
  by_cases hc:c=37
  ·subst hc
   match r,h,hN with
   | [],h,_=>cases h
   | [d],h,_=>cases h
   | a::b::r,h,hN =>
    rw [decU,if_pos rfl] at h
    split at h
    ·cases h
    ·obtain ⟨l',h1,rfl⟩:=Option.map_eq_some_iff.1 h
     simp only [List.length_cons] at hN
     have:=decU_len N r l' (by omega) h1
     simp only [List.length_cons]; omega
  ·rw [decU_plain hc] at h
   obtain ⟨l',h1,rfl⟩:=Option.map_eq_some_iff.1 h
   have:=decU_len N r l' (by omega) h1
   simp only [List.length_cons]; omega
end Go.Proofs.YtngonchkhmjenaaGreatDoorBv
/- Encode, as the program does it. No program is in sight. -/
namespace Go.Proofs.YtngonchkhmjenaaGreatDoorBv
open Go
set_option linter.unusedSimpArgs false
set_option linter.unusedVariables false
theorem encode_loop (s:List UInt8) (hl:s.length≤10000000) (K:List UInt8→Option (List UInt8)):∀(d i:Nat),i+d=s.length→∀ m,Zk s K (m+d+1) (encL (s.take i)) (i:Int)=K (encL s)
 | 0,i,hi,m=>by
  obtain rfl:i=s.length:=by omega
  rw [Zk,if_neg (by simp),List.take_length]
 | d+1,i,hi,m=>by
  have h:i<s.length:=by omega
  have hlen:=encL_len (s.take i)
  rw [List.length_take] at hlen
  have ih:=encode_loop s hl K d (i+1) (by omega) m
  have hc:=s[i].toNat_lt
  rw [Zk,if_pos (by simp only [decide_eq_true_eq]; omega),at_some h,Option.bind_some,plain_eq,Option.bind_some,show m+(d+1)=m+d+1 by omega]
  unfold Z49
  rw [wi_id (by omega) (by omega),show (i:Int)+1=((i+1:Nat):Int) by omega]
  cases hp:plainB s[i] with
  | true =>
   rw [if_pos rfl,Option.bind_some]
   show (bWriteByte? (encL (s.take i)) (s[i].toNat:Int)).bind _=_
   unfold bWriteByte?
   rw [if_pos ⟨by omega,by omega,by omega⟩,Option.bind_some]
   rw [encL_take h,enc1,hp,if_pos rfl] at ih
   simpa using ih
  | false =>
   rw [if_neg (by simp),Option.bind_some,(triple_eq _).1,Option.bind_some]
   show (bWriteString? (encL (s.take i)) (tri s[i])).bind _=_
   unfold bWriteString?
   rw [if_pos (by rw [(triple_eq _).2]; omega),Option.bind_some]
   rw [encL_take h,enc1,hp,if_neg (by simp)] at ih
   exact ih
theorem encode_eq (s:List UInt8) (hl:s.length≤10000000):Z4a s=some (encL s):=by
 unfold Z4a
 refine lim_add (s.length+1) fun m=>?_
 exact encode_loop s hl _ s.length 0 (by omega) m
end Go.Proofs.YtngonchkhmjenaaGreatDoorBv
/- Addresses, their first steps: what a text begins with, small letters, hosts. No program is in sight. -/
namespace Go.Proofs.YtngonchkhmjenaaGreatDoorBv
open Go
set_option linter.unusedSimpArgs false
set_option linter.unusedVariables false
theorem hp_eq (s p:List UInt8):Z29 s p=some (decide (s.take p.length=p)):=by
 unfold Z29 Z3u
 by_cases h:p.length≤s.length
 ·rw [if_pos (by simp only [decide_eq_true_eq]; omega),sub_take h,Option.bind_some]
 ·rw [if_neg (by simp only [decide_eq_true_eq]; omega),List.take_of_length_le (by omega)]
  congr 1
  symm
  rw [decide_eq_false_iff_not]
  rintro rfl
  exact h (Nat.le_refl _)
theorem take_le {s p:List UInt8}(h:s.take p.length=p):p.length≤s.length:=by
 have:=congrArg List.length h
 rw [List.length_take] at this
 omega
theorem cutPre_eq (s p:List UInt8):Z2y s p=some (if s.take p.length=p then (s.drop p.length,true) else (s,false)):=by
 unfold Z2y Z59
 rw [hp_eq,Option.bind_some]
 by_cases h:s.take p.length=p
 ·rw [if_neg (by simp [h]),sub_drop (take_le h),if_pos h]; rfl
 ·rw [if_pos (by simp [h]),if_neg h]; rfl
theorem trimPre_eq (s p:List UInt8):Z7 s p=some (if s.take p.length=p then s.drop p.length else s):=by
 unfold Z7 Z5h
 rw [hp_eq,Option.bind_some]
 by_cases h:s.take p.length=p
 ·rw [if_pos (by simp [h]),sub_drop (take_le h),if_pos h]; rfl
 ·rw [if_neg (by simp [h]),if_neg h]; rfl
/-! ### small letters -/
theorem byts_ints' (l:List UInt8):byts (ints l)=l:=by
 unfold byts ints
 rw [List.map_map]
 refine (List.map_congr_left (g:=id) fun c _=>?_).trans (List.map_id _)
 simp
theorem up_between (c:UInt8):Z1 (wr .i64 (c.toNat:Int)) 65 90=isUp c:=by
 have:=c.toNat_lt
 unfold Z1
 rw [wr_i64,wi_id (by omega) (by omega)]
 exact isUp_eq c
theorem lower_l0 (s:List UInt8) (hl:s.length≤140737488355328):∀(N i:Nat),s.length - i<N→i≤s.length →
  Z12 (fun b=>some (byts b)) N (ints ((s.take i).map loB ++ s.drop i)) (s.length:Int) (i:Int)=some (s.map loB)
 | 0,i,hN,hi=>by omega
 | N+1,i,hN,hi=>by
  rw [Z12]
  have hlen:((s.take i).map loB).length=i:=by simp; omega
  by_cases h:i<s.length
  ·have hg:((s.take i).map loB ++ s.drop i)[i]? = some s[i]:=by
    rw [List.getElem?_append_right (by omega),hlen]
    simp [h]
   have ih:=lower_l0 s hl N (i+1) (by omega) (by omega)
   have eset:((s.take i).map loB ++ s.drop i).set i (loB s[i])=(s.take (i+1)).map loB ++ s.drop (i+1):=by
    rw [List.set_append_right _ _ (by omega),hlen,List.drop_eq_getElem_cons h,Nat.sub_self,List.set_cons_zero,List.take_add_one,List.getElem?_eq_getElem h]
    simp only [Option.toList_some,List.map_append,List.map_cons,List.map_nil,List.append_assoc,List.cons_append,List.nil_append]
   have hint:∀ c:UInt8,(ints ((s.take i).map loB ++ s.drop i)).set i (c.toNat:Int)=ints (((s.take i).map loB ++ s.drop i).set i c):=by
    intro c
    unfold ints
    rw [List.map_set]
   have ha:at? (ints ((s.take i).map loB ++ s.drop i)) (i:Int)=some (s[i].toNat:Int):=by rw [at_nat,ints_get,hg]; rfl
   rw [if_pos (by simp only [decide_eq_true_eq]; omega),ha,Option.bind_some,Option.bind_some,up_between]
   unfold Z4s
   rw [wi_id (by omega) (by omega),show (i:Int)+1=((i+1:Nat):Int) by omega]
   by_cases hc:isUp s[i]=true
   ·have e2:wr .u8 ((s[i].toNat:Int)+32)=((loB s[i]).toNat:Int):=by
     rw [← loB_up hc,wr_u8]
     have:0≤((s[i].toNat:Int)+32) % 256∧((s[i].toNat:Int)+32) % 256<256:=by omega
     simp
     omega
    rw [if_pos hc,e2,show ((i:Int)).toNat=i from rfl,hint,eset]
    exact ih
   ·have e:loB s[i]=s[i]:=by unfold loB; rw [if_neg hc]
    have eq:(s.take i).map loB ++ s.drop i=(s.take (i+1)).map loB ++ s.drop (i+1):=by
     rw [← eset,e]
     exact (set_selfB hg).symm
    rw [eq,if_neg hc]
    exact ih
  ·have:i=s.length:=by omega
   subst this
   rw [if_neg (by simp)]
   simp [byts_ints']
theorem lower_eq {s:List UInt8}(hl:s.length≤140737488355328):Z3b s=some (s.map loB):=by
 unfold Z3b
 refine lim_eq (s.length+1) fun k hk=>?_
 have:=lower_l0 s hl k 0 (by omega) (by omega)
 rw [ints_length]
 simpa using this
theorem fn1_small (r:Int) (h0:0≤r) (h1:r≤1114111):Z5 r=if 65≤r∧r≤90 then r+32 else r:=by
 unfold Z5
 by_cases h:65≤r∧r≤90
 ·rw [if_pos (by simpa using h),if_pos h]
  have e1:wr .i32 (r+97)=r+97:=by simp [wr,IntKind.wrap,IntKind.bits]; omega
  rw [e1]
  have e2:wr .i32 (r+97 - 65)=r+97 - 65:=by simp [wr,IntKind.wrap,IntKind.bits]; omega
  rw [e2]
  omega
 ·rw [if_neg (by simpa using h),if_neg h]
theorem small_some (s:List UInt8) (hl:s.length≤10000000):Z28 s=some (Lib.mapD Z5 s):=by
 unfold Z28
 show (smap? Z5 s).bind _=_
 rw [smap_some (by omega) fun x hx=>?_,Option.bind_some]
 rw [fn1_small _ (by omega) (by omega)]
 split <;> omega
theorem enc_ascii (c:UInt8) (h:c.toNat<128):0≤Z5 (c.toNat:Int)∧Lib.encodeRune (Z5 (c.toNat:Int))=[loB c]:=by
 have:=u8_all (p:=fun c=>decide (c.toNat<128→0≤Z5 (c.toNat:Int)∧Lib.encodeRune (Z5 (c.toNat:Int))=[loB c])) (by decide +kernel) c
 exact of_decide_eq_true this h
theorem dl_ascii (c:UInt8) (r:List UInt8) (h:c.toNat<128):Lib.decodeL (c::r)=(c.toNat,1):=by
 have:=decode_ascii ⟨(c::r).toArray⟩ 0 (by show 0<(c::r).toArray.size; simp) (by show ((c::r).toArray[0]'(by simp)).toNat<128; simpa using h)
 exact this
theorem mapD_ascii:∀ s:List UInt8,(∀ c,c ∈ s→c.toNat<128)→Lib.mapD Z5 s=s.map loB
 | [],_=>rfl
 | c::r,h=>by
  have hc:=h c (List.mem_cons_self ..)
  rw [Lib.mapD_step _ _ (by simp),dl_ascii c r hc]
  simp only [List.drop_succ_cons,List.drop_zero]
  rw [if_pos (enc_ascii c hc).1,(enc_ascii c hc).2,mapD_ascii r fun x hx=>h x (List.mem_cons_of_mem _ hx)]
  rfl
theorem enc_far (r:Int) (h0:128≤r) (h1:r≤1114111):∃ y,y ∈ Lib.encodeRune r∧128≤y.toNat:=by
 have key:∃ z,z ∈ Lib.encodeRuneZ r∧128≤z∧z<256:=by
  by_cases hb:r<0∨(55296≤r∧r≤57343)∨1114111<r
  ·rw [Lib.encodeRuneZ_bad hb]; exact ⟨239,by simp,by omega,by omega⟩
  ·by_cases h2:r≤2047
   ·rw [Lib.encodeRuneZ_two h0 h2]; exact ⟨192+r / 64,by simp,by omega,by omega⟩
   ·by_cases h3:r≤65535
    ·rw [Lib.encodeRuneZ_three (by omega)]; exact ⟨224+r / 4096,by simp,by omega,by omega⟩
    ·rw [Lib.encodeRuneZ_four (by omega) h1]; exact ⟨240+r / 262144,by simp,by omega,by omega⟩
 obtain ⟨z,hz,h2,h3⟩:=key
 refine ⟨z.toNat.toUInt8,List.mem_map.2 ⟨z,hz,rfl⟩,?_⟩
 have:z.toNat<256:=by omega
 simp [Nat.mod_eq_of_lt this]
 omega
theorem mapD_far:∀(n:Nat) (s:List UInt8),s.length≤n→(∃ c,c ∈ s∧128≤c.toNat)→∃ y,y ∈ Lib.mapD Z5 s∧128≤y.toNat
 | _,[],_,⟨c,hc,_⟩=>absurd hc List.not_mem_nil
 | 0,c::r,h,_=>by simp at h
 | n+1,c::r,hn,⟨x,hx,hx128⟩=>by
  simp only [List.length_cons] at hn
  rw [Lib.mapD_step _ _ (by simp)]
  by_cases hc:c.toNat<128
  ·rw [dl_ascii c r hc]
   simp only [List.drop_succ_cons,List.drop_zero]
   have hxr:x ∈ r:=by
    rcases List.mem_cons.1 hx with rfl | h
    ·omega
    ·exact h
   obtain ⟨y,hy,hy128⟩:=mapD_far n r (by omega) ⟨x,hxr,hx128⟩
   exact ⟨y,List.mem_append.2 (.inr hy),hy128⟩
  ·have hd:=decode_far ⟨(c::r).toArray⟩ 0 (by show 0<(c::r).toArray.size; simp) (by show 128≤((c::r).toArray[0]'(by simp)).toNat; simp; omega)
   have hv:=hd.2.1
   have h1:128≤(Lib.decodeL (c::r)).1:=hd.1
   have h2:(Lib.decodeL (c::r)).1≤1114111:=by
    have hv' : Utf8.valid ((Lib.decodeL (c::r)).1:Int)=true:=hv
    simp [Utf8.valid] at hv'
    omega
   rw [fn1_small _ (by omega) (by omega),if_neg (show ¬ (65≤(((Lib.decodeL (c::r)).1:Nat):Int)∧_) by omega),if_pos (by omega)]
   obtain ⟨y,hy,hy128⟩:=enc_far ((Lib.decodeL (c::r)).1:Int) (by omega) (by omega)
   exact ⟨y,List.mem_append.2 (.inl hy),hy128⟩
/-! ### hosts -/
def hch (c:UInt8):Bool:=(decide (97≤c.toNat)&&decide (c.toNat≤122))||(decide (48≤c.toNat)&&decide (c.toNat≤57))||decide (c=45)
def hgood (p:List UInt8):Bool:=!p.isEmpty&&p.all hch
def hR:UInt8→List UInt8→Bool
 | last,[]=>!decide (last=46)
 | last,c::r=>if (!hch c&&!decide (c=46))||(decide (c=46)&&decide (last=46)) then false else hR c r
theorem hR_cut:∀(s:List UInt8) (last:UInt8),hR last s=match cutB 46 s with
  | []=>false
  | h::t=>(!(decide (last=46)&&h.isEmpty))&&h.all hch&&t.all hgood
 | [],last=>by simp [hR,cutB]
 | c::r,last=>by
  have ih:=hR_cut r
  have hne:=cutB_ne 46 r
  cases hb:cutB 46 r with
  | nil=>exact absurd hb hne
  | cons h t =>
   rw [hb] at ih
   by_cases hc:c=46
   ·subst hc
    rw [hR,cutB,if_pos rfl,ih,hb]
    by_cases hl:last=46
    ·simp [hl]
    ·simp [hl,hgood]
   ·rw [hR,cutB,if_neg hc,hb,ih]
    simp only [hc,decide_false,Bool.not_false,Bool.and_true,Bool.false_and,Bool.or_false,List.all_cons,List.isEmpty_cons,Bool.and_false]
    cases hch c <;> simp
theorem hR_good (s:List UInt8):hR 46 s=(cutB 46 s).all hgood:=by
 rw [hR_cut]
 cases hb:cutB 46 s with
 | nil=>exact absurd hb (cutB_ne 46 s)
 | cons h t=>simp [hgood]
theorem hR_low:∀(s:List UInt8) (last:UInt8),hR last s=true→∀ c,c ∈ s→c.toNat<128
 | [],_,_,c,hc=>absurd hc List.not_mem_nil
 | x::r,last,h,c,hc=>by
  rw [hR] at h
  split at h
  ·cases h
  ·rename_i hx
   rcases List.mem_cons.1 hc with rfl | hc
   ·simp only [Bool.or_eq_true,Bool.and_eq_true,Bool.not_eq_true',decide_eq_false_iff_not,decide_eq_true_eq,not_or,not_and] at hx
    by_cases h46:c=46
    ·subst h46; decide
    ·have:hch c=true:=by
      cases hh:hch c with
      | true=>rfl
      | false=>exact absurd h46 (hx.1 hh)
     unfold hch at this
     simp only [Bool.or_eq_true,Bool.and_eq_true,decide_eq_true_eq] at this
     rcases this with (h | h) | h
     ·omega
     ·omega
     ·subst h; decide
   ·exact hR_low r _ h c hc
theorem hch_eq (c:UInt8):([97,98,99,100,101,102,103,104,105,106,107,108,109,110,111,112,113,114,115,116,117,118,119,120,121,122,48,49,50,51,52,53,54,55,56,57,45]:List UInt8).contains c=hch c:=by
 have:=u8_all (p:=fun c=>decide (([97,98,99,100,101,102,103,104,105,106,107,108,109,110,111,112,113,114,115,116,117,118,119,120,121,122,48,49,50,51,52,53,54,55,56,57,45]:List UInt8).contains c=hch c)) (by decide +kernel) c
 exact of_decide_eq_true this
theorem trimHost (s:List UInt8) (hl:s.length≤10000000):∃ r,Z3w s [97,98,99,100,101,102,103,104,105,106,107,108,109,110,111,112,113,114,115,116,117,118,119,120,121,122,48,49,50,51,52,53,54,55,56,57,45]=some r∧(decide (r=[])=s.all hch):=by
 refine ⟨_,(show trim? s _=_ from if_pos ⟨by omega,by decide,by decide⟩),?_⟩
 rw [Bool.eq_iff_iff,decide_eq_true_eq,trimS_nil,List.all_eq_true]
 constructor
 ·intro h x hx; rw [← hch_eq]; exact h x hx
 ·intro h x hx; rw [hch_eq]; exact h x hx
theorem host_l0 (r:List (List UInt8)) (hl:r.length≤10000000) (hm:∀ p,p ∈ r→p.length≤10000000):∀(N i:Nat),r.length - i<N→i≤r.length →
  Zv r (fun _=>some true) N r (i:Int)=some ((r.drop i).all hgood)
 | 0,i,hN,hi=>by omega
 | N+1,i,hN,hi=>by
  rw [Zv]
  by_cases h:i<r.length
  ·have ih:=host_l0 r hl hm N (i+1) (by omega) (by omega)
   rw [if_pos (by simp only [decide_eq_true_eq]; omega),at_some h,Option.bind_some,List.drop_eq_getElem_cons h,List.all_cons]
   unfold Z3x
   rw [wi_id (by omega) (by omega),show (i:Int)+1=((i+1:Nat):Int) by omega,ih]
   by_cases he:r[i]=[]
   ·rw [if_pos (by simp [he]),if_pos rfl,he]; rfl
   ·obtain ⟨t,ht,htn⟩:=trimHost r[i] (hm _ (List.getElem_mem h))
    rw [if_neg (by simp [he]),ht,Option.bind_some,htn]
    have hg:hgood r[i]=r[i].all hch:=by
     unfold hgood
     cases hx:r[i] with
     | nil=>exact absurd hx he
     | cons a b=>simp
    rw [hg]
    cases r[i].all hch <;> simp
  ·rw [if_neg (by simp only [decide_eq_true_eq]; omega),List.drop_eq_nil_of_le (by omega)]
   rfl
def hostS (s:List UInt8):Bool:=decide (s.length≤100)&&hR 46 s
theorem host_eq (s:List UInt8):Z3y s=some (hostS s):=by
 unfold Z3y hostS
 by_cases h:s.length≤100
 ·have hc:=cutB_length 46 s
  rw [if_neg (by simp only [decide_eq_true_eq]; omega)]
  show (split? s [46]).bind _=_
  rw [split_one (by omega),Option.bind_some]
  refine lim_eq ((cutB 46 s).length+1) fun k hk=>?_
  have:=host_l0 (cutB 46 s) (by omega) (fun p hp=>by have:=(cutB_mem hp).2; omega) k 0 (by omega) (by omega)
  rw [List.drop_zero] at this
  rw [show decide (s.length≤100)=true by simpa using h,Bool.true_and,hR_good]
  exact this
 ·rw [if_pos (by simp only [decide_eq_true_eq]; omega),show decide (s.length≤100)=false by simpa using h]
  rfl
theorem bad_ch (c last:UInt8):(((((!(Z1 (wr .i64 (c.toNat:Int)) 97 122))&&(!(Z1 (wr .i64 (c.toNat:Int)) 48 57)))&&(!decide ((c.toNat:Int)=45)))&&(!decide ((c.toNat:Int)=46)))||((decide ((c.toNat:Int)=46))&&(decide ((last.toNat:Int)=46))))=((!hch c&&!decide (c=46))||(decide (c=46)&&decide (last=46))):=by
 have hc:=c.toNat_lt
 have e1:decide ((c.toNat:Int)=46)=decide (c=46):=decide_eq_decide.2 ⟨fun h=>UInt8.toNat_inj.1 (by simp; omega),fun h=>by subst h; rfl⟩
 have e2:decide ((last.toNat:Int)=46)=decide (last=46):=decide_eq_decide.2 ⟨fun h=>UInt8.toNat_inj.1 (by simp; omega),fun h=>by subst h; rfl⟩
 have e3:decide ((c.toNat:Int)=45)=decide (c=45):=decide_eq_decide.2 ⟨fun h=>UInt8.toNat_inj.1 (by simp; omega),fun h=>by subst h; rfl⟩
 have e4:Z1 (wr .i64 (c.toNat:Int)) 97 122=(decide (97≤c.toNat)&&decide (c.toNat≤122)):=by
  unfold Z1
  rw [wr_i64,wi_id (by omega) (by omega)]
  congr 1
  ·rw [decide_eq_decide]; omega
  ·rw [decide_eq_decide]; omega
 have e5:Z1 (wr .i64 (c.toNat:Int)) 48 57=(decide (48≤c.toNat)&&decide (c.toNat≤57)):=by
  unfold Z1
  rw [wr_i64,wi_id (by omega) (by omega)]
  congr 1
  ·rw [decide_eq_decide]; omega
  ·rw [decide_eq_decide]; omega
 rw [e1,e2,e3,e4,e5]
 unfold hch
 cases (decide (97≤c.toNat)&&decide (c.toNat≤122)) <;> cases (decide (48≤c.toNat)&&decide (c.toNat≤57)) <;> cases decide (c=45) <;> cases decide (c=46) <;> cases decide (last=46) <;> rfl
theorem hostRight_l0 (s:List UInt8) (hl:s.length≤10000000):∀(N i:Nat) (last:UInt8),s.length - i<N→i≤s.length →
  Z1g s (fun l=>some (!decide (l=46))) N (last.toNat:Int) (i:Int)=some (hR last (s.drop i))
 | 0,i,last,hN,hi=>by omega
 | N+1,i,last,hN,hi=>by
  rw [Z1g,ints_length]
  by_cases h:i<s.length
  ·have ih:=hostRight_l0 s hl N (i+1) s[i] (by omega) (by omega)
   have a1:at? (ints s) (i:Int)=some (s[i].toNat:Int):=by rw [at_nat,ints_get,List.getElem?_eq_getElem h]; rfl
   rw [if_pos (by simp only [decide_eq_true_eq]; omega),a1,Option.bind_some,bad_ch,wi_id (by omega) (by omega),show (i:Int)+1=((i+1:Nat):Int) by omega,ih,List.drop_eq_getElem_cons h,hR]
   split <;> rfl
  ·rw [if_neg (by simp only [decide_eq_true_eq]; omega),List.drop_eq_nil_of_le (by omega),hR]
   congr 2
   exact decide_eq_decide.2 ⟨fun h=>UInt8.toNat_inj.1 (by simp; omega),fun h=>by subst h; rfl⟩
theorem hostRight_eq (s:List UInt8):Z4v s=some (hostS s):=by
 unfold Z4v hostS
 by_cases h:1≤s.length∧s.length≤100
 ·rw [if_neg (by unfold Z1; simp; omega),show decide (s.length≤100)=true by simpa using h.2,Bool.true_and]
  refine lim_eq (s.length+1) fun k hk=>?_
  exact hostRight_l0 s (by omega) k 0 46 (by omega) (by omega)
 ·rw [if_pos (by unfold Z1; simp; omega)]
  by_cases h0:s=[]
  ·subst h0; rfl
  ·have:¬ s.length≤100:=by
    intro h1
    refine h ⟨?_,h1⟩
    cases s with
    | nil=>exact absurd rfl h0
    | cons a b=>simp
   rw [show decide (s.length≤100)=false by simpa using this]
   rfl
theorem host_far {s:List UInt8}(h:∃ c,c ∈ s∧128≤c.toNat):hostS s=false:=by
 obtain ⟨c,hc,h128⟩:=h
 unfold hostS
 cases hh:hR 46 s with
 | false=>simp
 | true =>
  have:=hR_low s 46 hh c hc
  omega
theorem loB_far (c:UInt8) (h:128≤c.toNat):loB c=c:=by
 unfold loB isUp
 rw [if_neg (by simp; omega)]
theorem host_small (s:List UInt8) (hl:s.length≤10000000):∃ t,Z28 s=some t∧hostS t=hostS (s.map loB)∧(hostS t=true→t=s.map loB):=by
 refine ⟨_,small_some s hl,?_⟩
 by_cases h:∀ c,c ∈ s→c.toNat<128
 ·rw [mapD_ascii s h]
  exact ⟨rfl,fun _=>rfl⟩
 ·have hex:∃ c,c ∈ s∧128≤c.toNat:=by
   false_or_by_contra
   rename_i hn
   refine h fun c hc=>?_
   false_or_by_contra
   exact hn ⟨c,hc,by omega⟩
  have h1:=host_far (mapD_far s.length s (Nat.le_refl _) hex)
  have h2:hostS (s.map loB)=false:=by
   obtain ⟨c,hc,h128⟩:=hex
   exact host_far ⟨loB c,List.mem_map.2 ⟨c,hc,rfl⟩,by rw [loB_far c h128]; exact h128⟩
  rw [h1,h2]
  exact ⟨rfl,fun h=>by cases h⟩
end Go.Proofs.YtngonchkhmjenaaGreatDoorBv
/- Addresses: schemes; a text up to the first of some marks. No program is in sight. -/
namespace Go.Proofs.YtngonchkhmjenaaGreatDoorBv
open Go
set_option linter.unusedSimpArgs false
set_option linter.unusedVariables false
theorem takeWhile_all {α:Type}{p:α→Bool}:∀{l:List α},(∀ x,x ∈ l→p x=true)→l.takeWhile p=l
 | [],_=>rfl
 | x::r,h=>by rw [List.takeWhile_cons_of_pos (h x (List.mem_cons_self ..)),takeWhile_all fun y hy=>h y (List.mem_cons_of_mem _ hy)]
/-! ### up to the first of some marks -/
theorem con_one (marks:List UInt8) (c:UInt8):contains? marks [c]=some (marks.contains c):=by
 rw [Lib.contains_iff_indexByte]; rfl
theorem parted_l0 (s marks:List UInt8) (hl:s.length≤10000000) (hm:∀ c,c ∈ marks→c.toNat<128):∀(N i:Nat),s.length - i<N→i≤s.length→(∀ c,c ∈ s.take i→marks.contains c=false) →
  Z13 s marks (fun _=>some (s,[])) N (i:Int)=some (s.takeWhile (fun c=>!marks.contains c),s.dropWhile (fun c=>!marks.contains c))
 | 0,i,hN,hi,hn=>by omega
 | N+1,i,hN,hi,hn=>by
  rw [Z13]
  by_cases h:i<s.length
  ·have tk:s.take (i+1)=s.take i ++ [s[i]]:=by rw [List.take_add_one,List.getElem?_eq_getElem h]; rfl
   have ih:marks.contains s[i]=false→_:=fun hc=>parted_l0 s marks hl hm N (i+1) (by omega) (by omega) (fun c hc' => by
    rw [tk] at hc'
    rcases List.mem_append.1 hc' with h | h
    ·exact hn c h
    ·rw [List.mem_singleton] at h; subst h; exact hc)
   rw [if_pos (by simp only [decide_eq_true_eq]; omega),at_some h,Option.bind_some]
   unfold Z4u
   rw [wi_id (by omega) (by omega),show (i:Int)+1=((i+1:Nat):Int) by omega]
   have hit:marks.contains s[i]=true→s.takeWhile (fun c=>!marks.contains c)=s.take i∧s.dropWhile (fun c=>!marks.contains c)=s.drop i:=by
    intro hc
    have e:s=s.take i ++ s[i]::s.drop (i+1):=by rw [← List.drop_eq_getElem_cons h,List.take_append_drop]
    have e1:(s.take i ++ s[i]::s.drop (i+1)).takeWhile (fun c=>!marks.contains c)=s.take i:=by
     rw [List.takeWhile_append_of_pos (fun x hx=>by simpa using hn x hx),List.takeWhile_cons_of_neg (by simpa using hc),List.append_nil]
    have e2:(s.take i ++ s[i]::s.drop (i+1)).dropWhile (fun c=>!marks.contains c)=s[i]::s.drop (i+1):=by
     rw [List.dropWhile_append_of_pos (fun x hx=>by simpa using hn x hx),List.dropWhile_cons_of_neg (by simpa using hc)]
    rw [← e] at e1 e2
    exact ⟨e1,by rw [e2,List.drop_eq_getElem_cons h]⟩
   by_cases h128:s[i].toNat<128
   ·rw [if_pos (by simp only [decide_eq_true_eq]; omega),sub_oneB h,Option.bind_some]
    show (contains? marks [s[i]]).bind _=_
    rw [con_one,Option.bind_some]
    cases hc:marks.contains s[i] with
    | true =>
     rw [if_pos rfl,sub_take hi,Option.bind_some,sub_drop hi,Option.bind_some,(hit hc).1,(hit hc).2]
    | false=>rw [if_neg (by simp)]; exact ih hc
   ·have hc:marks.contains s[i]=false:=by
     cases hc:marks.contains s[i] with
     | false=>rfl
     | true=>exact absurd (hm _ (by simpa using hc)) h128
    rw [if_neg (by simp only [decide_eq_true_eq]; omega),if_neg (by simp)]
    exact ih hc
  ·obtain rfl:i=s.length:=by omega
   rw [List.take_length] at hn
   rw [if_neg (by simp)]
   have e1:s.takeWhile (fun c=>!marks.contains c)=s:=takeWhile_all (fun x hx=>by simpa using hn x hx)
   have e2:s.dropWhile (fun c=>!marks.contains c)=[]:=dropWhile_nil (fun x hx=>by simpa using hn x hx)
   rw [e1,e2]
theorem parted_eq (s marks:List UInt8) (hl:s.length≤10000000) (hm:∀ c,c ∈ marks→c.toNat<128):Z8 s marks=some (s.takeWhile (fun c=>!marks.contains c),s.dropWhile (fun c=>!marks.contains c)):=by
 unfold Z8
 refine lim_eq (s.length+1) fun k hk=>?_
 exact parted_l0 s marks hl hm k 0 (by omega) (by omega) (fun c hc=>by simp at hc)
theorem indexAny_eq (marks:List UInt8):∀ s:List UInt8,Lib.indexAny s marks=if s.dropWhile (fun c=>!marks.contains c)=[] then -1 else ((s.takeWhile (fun c=>!marks.contains c)).length:Int)
 | []=>rfl
 | c::r=>by
  rw [Lib.indexAny,indexAny_eq marks r]
  cases hc:marks.contains c with
  | true=>rw [if_pos rfl,List.dropWhile_cons_of_neg (by rw [hc]; simp),List.takeWhile_cons_of_neg (by rw [hc]; simp),if_neg (by simp)]; rfl
  | false =>
   rw [if_neg (by simp),List.dropWhile_cons_of_pos (by rw [hc]; rfl),List.takeWhile_cons_of_pos (by rw [hc]; rfl)]
   by_cases h:r.dropWhile (fun c=>!marks.contains c)=[]
   ·rw [if_pos h,if_pos h]; rfl
   ·rw [if_neg h,if_neg h,if_neg (by simp)]
    simp
theorem cut_eq (s:List UInt8) (c:UInt8):Lib.cut s [c]=(s.takeWhile (fun x=>!([c]:List UInt8).contains x),(s.dropWhile (fun x=>!([c]:List UInt8).contains x)).drop 1,!(s.dropWhile (fun x=>!([c]:List UInt8).contains x)).isEmpty):=by
 have hc:([c]:List UInt8).contains c=true:=by simp
 have hne:∀ x,x≠c→([c]:List UInt8).contains x=false:=fun x hx=>by simpa using hx
 unfold Lib.cut
 rcases index_one c s with ⟨h1,h2⟩ | ⟨a,b,rfl,h2,h3⟩
 ·rw [h1,if_neg (by omega)]
  have e1:s.takeWhile (fun x=>!([c]:List UInt8).contains x)=s:=takeWhile_all (fun x hx=>by simpa using h2 x hx)
  have e2:s.dropWhile (fun x=>!([c]:List UInt8).contains x)=[]:=dropWhile_nil (fun x hx=>by simpa using h2 x hx)
  rw [e1,e2]
  rfl
 ·rw [h3,if_pos (by omega)]
  have e1:(a ++ c::b).takeWhile (fun x=>!([c]:List UInt8).contains x)=a:=by
   rw [List.takeWhile_append_of_pos (fun x hx=>by rw [hne x (h2 x hx)]; rfl),List.takeWhile_cons_of_neg (by simp),List.append_nil]
  have e2:(a ++ c::b).dropWhile (fun x=>!([c]:List UInt8).contains x)=c::b:=by
   rw [List.dropWhile_append_of_pos (fun x hx=>by rw [hne x (h2 x hx)]; rfl),List.dropWhile_cons_of_neg (by simp)]
  rw [e1,e2]
  simp
theorem drop_head (s:List UInt8) (c:UInt8):s.dropWhile (fun x=>!([c]:List UInt8).contains x)=[]∨∃ r,s.dropWhile (fun x=>!([c]:List UInt8).contains x)=c::r:=by
 cases h:s.dropWhile (fun x=>!([c]:List UInt8).contains x) with
 | nil=>exact .inl rfl
 | cons x r =>
  right
  have:=List.head_dropWhile_not (fun x=>!([c]:List UInt8).contains x) (l:=s) (by rw [h]; simp)
  simp only [h,List.head_cons] at this
  have hx:x=c:=by simpa using this
  subst hx
  exact ⟨r,rfl⟩
/-! ### schemes -/
def lett (c:UInt8):Bool:=(decide (97≤c.toNat)&&decide (c.toNat≤122))||(decide (65≤c.toNat)&&decide (c.toNat≤90))
def more (c:UInt8):Bool:=(decide (48≤c.toNat)&&decide (c.toNat≤57))||decide (c=43)||decide (c=45)||decide (c=46)
theorem letter_eq (c:UInt8):Z1l (c.toNat:Int)=lett c:=by
 have:=u8_all (p:=fun c=>decide (Z1l (c.toNat:Int)=lett c)) (by decide +kernel) c
 exact of_decide_eq_true this
theorem in_more (c:UInt8):Zu (c.toNat:Int) [48,49,50,51,52,53,54,55,56,57,43,45,46]=some (more c):=by
 have:=u8_all (p:=fun c=>decide (Zu (c.toNat:Int) [48,49,50,51,52,53,54,55,56,57,43,45,46]=some (more c))) (by decide +kernel) c
 exact of_decide_eq_true this
theorem lett_low (c:UInt8) (h:lett c=true∨more c=true):c.toNat<128∧c≠58:=by
 have:=u8_all (p:=fun c=>decide ((lett c=true∨more c=true)→c.toNat<128∧c≠58)) (by decide +kernel) c
 exact of_decide_eq_true this h
def sch (first:Bool) (c:UInt8):Bool:=lett c||(!first&&more c)
theorem sch_low {b:Bool}{c:UInt8}(h:sch b c=true):c.toNat<128∧c≠58:=by
 refine lett_low c ?_
 unfold sch at h
 simp only [Bool.or_eq_true,Bool.and_eq_true] at h
 rcases h with h | h
 ·exact .inl h
 ·exact .inr h.2
def sK:Bool→List UInt8→Option Nat
 | _,[]=>none
 | first,c::r=>if c=58∧first=false then some 0 else if sch first c then (sK false r).map (· + 1) else none
theorem sK_some:∀(s:List UInt8) (b:Bool) (k:Nat),sK b s=some k→(s.take k).all (fun c=>decide (c.toNat<128))=true∧(∀ c,c ∈ s.take k→c≠58)∧k<s.length∧s[k]? = some 58∧(b=true→0<k)
 | [],b,k,h=>by cases h
 | c::r,b,k,h=>by
  rw [sK] at h
  split at h
  ·rename_i hc
   cases h
   refine ⟨rfl,fun c hc=>by simp at hc,by simp,by simp [hc.1],fun hb=>?_⟩
   rw [hc.2] at hb; cases hb
  ·split at h
   ·rename_i hs
    obtain ⟨j,hj,rfl⟩:=Option.map_eq_some_iff.1 h
    obtain ⟨h1,h2,h3,h4,h5⟩:=sK_some r false j hj
    have hl:=sch_low hs
    refine ⟨?_,?_,by simpa using h3,by simpa using h4,fun _=>by omega⟩
    ·rw [List.take_succ_cons,List.all_cons,h1]; simpa using hl.1
    ·intro x hx
     rw [List.take_succ_cons] at hx
     rcases List.mem_cons.1 hx with rfl | hx
     ·exact hl.2
     ·exact h2 x hx
   ·cases h
def schemeS (s:List UInt8):List UInt8×List UInt8×Bool:=match sK true s with
 | none=>([],[],false)
 | some k=>((s.take k).map loB,s.drop (k+1),true)
theorem scheme_l0 (s:List UInt8) (hl:s.length≤10000000):∀(N i:Nat),s.length - i<N→i≤s.length→(s.take i).all (fun c=>decide (c.toNat<128))=true →
  Zd s (fun _=>some ([],[],false)) N (i:Int)=some (match sK (decide (i=0)) (s.drop i) with | none=>([],[],false) | some k=>((s.take (i+k)).map loB,s.drop (i+k+1),true))
 | 0,i,hN,hi,ha=>by omega
 | N+1,i,hN,hi,ha=>by
  rw [Zd]
  by_cases h:i<s.length
  ·have tk:s.take (i+1)=s.take i ++ [s[i]]:=by rw [List.take_add_one,List.getElem?_eq_getElem h]; rfl
   have ih:s[i].toNat<128→_:=fun hc=>scheme_l0 s hl N (i+1) (by omega) (by omega) (by rw [tk,List.all_append,ha]; simpa using hc)
   rw [if_pos (by simp only [decide_eq_true_eq]; omega),at_some h,Option.bind_some,List.drop_eq_getElem_cons h,sK]
   unfold Z2w
   rw [letter_eq,in_more,wi_id (by omega) (by omega),show (i:Int)+1=((i+1:Nat):Int) by omega]
   by_cases hc:s[i]=58∧decide (i=0)=false
   ·have hi0:i≠0:=by simpa using hc.2
    rw [if_pos (by simp [hc.1]; omega),if_pos hc,sub_take hi,Option.bind_some,sub_drop (by omega),Option.bind_some]
    have hsm:=small_some (s.take i) (by rw [List.length_take]; omega)
    rw [mapD_ascii (s.take i) (fun c hc=>by simpa using List.all_eq_true.1 ha c hc)] at hsm
    rw [hsm]
    rfl
   ·rw [if_neg hc,if_neg (by
     intro hh
     simp only [Bool.and_eq_true,decide_eq_true_eq] at hh
     refine hc ⟨UInt8.toNat_inj.1 (by simp; omega),by simp; omega⟩)]
    have step:∀ b:Bool,b=sch (decide (i=0)) s[i]→(if (!b)=true then some (([]:List UInt8),([]:List UInt8),false) else Zd s (fun _=>some ([],[],false)) N ((i+1:Nat):Int))=some (match (if sch (decide (i=0)) s[i]=true then (sK false (s.drop (i+1))).map (· + 1) else none) with | none=>([],[],false) | some k=>((s.take (i+k)).map loB,s.drop (i+k+1),true)):=by
     rintro b rfl
     cases hs:sch (decide (i=0)) s[i] with
     | false=>simp
     | true =>
      rw [if_neg (by simp),ih (sch_low hs).1,if_pos rfl]
      congr 1
      rw [show decide (i+1=0)=false by simp]
      cases sK false (s.drop (i+1)) with
      | none=>rfl
      | some k =>
       show ((s.take (i+1+k)).map loB,s.drop (i+1+k+1),true)=((s.take (i+(k+1))).map loB,s.drop (i+(k+1)+1),true)
       rw [show i+1+k=i+(k+1) by omega]
    cases hlt:lett s[i] with
    | true =>
     rw [if_neg (by simp)]
     exact step true (by unfold sch; rw [hlt]; rfl)
    | false =>
     rw [if_pos (by simp)]
     by_cases h0:i=0
     ·rw [if_pos (by simp only [decide_eq_true_eq]; omega)]
      exact step false (by unfold sch; rw [hlt]; simp [h0])
     ·rw [if_neg (by simp only [decide_eq_true_eq]; omega),Option.bind_some]
      exact step (more s[i]) (by unfold sch; rw [hlt]; simp [h0])
  ·rw [if_neg (by simp only [decide_eq_true_eq]; omega),List.drop_eq_nil_of_le (by omega),sK]
theorem scheme_eq (s:List UInt8) (hl:s.length≤10000000):Z2x s=some (schemeS s):=by
 unfold Z2x
 refine lim_eq (s.length+1) fun k hk=>?_
 refine (scheme_l0 s hl k 0 (by omega) (by omega) rfl).trans ?_
 unfold schemeS
 rw [List.drop_zero]
 simp only [Nat.zero_add]
 rfl
end Go.Proofs.YtngonchkhmjenaaGreatDoorBv
/- Addresses: the document's schemes; ports and places. No program is in sight. -/
namespace Go.Proofs.YtngonchkhmjenaaGreatDoorBv
open Go
set_option linter.unusedSimpArgs false
set_option linter.unusedVariables false
/-! ### the document's schemes -/
def aOK:Bool→List UInt8→Bool
 | _,[]=>true
 | first,c::r=>sch first c&&aOK false r
theorem sK_hit (b:List UInt8):∀(a:List UInt8) (first:Bool),(∀ x,x ∈ a→x≠58)→(first=true→a≠[])→sK first (a ++ 58::b)=if aOK first a then some a.length else none
 | [],first,_,h=>by
  cases first with
  | true=>exact absurd rfl (h rfl)
  | false=>rfl
 | c::r,first,hc,h=>by
  rw [List.cons_append,sK,if_neg (fun hh=>hc c (List.mem_cons_self ..) hh.1),sK_hit b r false (fun x hx=>hc x (List.mem_cons_of_mem _ hx)) (fun h=>by cases h),aOK]
  cases sch first c <;> cases aOK false r <;> simp
theorem sch_bad (c:UInt8) (first:Bool):((!(Z1 (wr .i64 ((loB c).toNat:Int)) 97 122))&&(first||((((!(Z1 (wr .i64 ((loB c).toNat:Int)) 48 57))&&(!decide (((loB c).toNat:Int)=43)))&&(!decide (((loB c).toNat:Int)=45)))&&(!decide (((loB c).toNat:Int)=46)))))=!sch first c:=by
 have h:∀ first:Bool,((!(Z1 (wr .i64 ((loB c).toNat:Int)) 97 122))&&(first||((((!(Z1 (wr .i64 ((loB c).toNat:Int)) 48 57))&&(!decide (((loB c).toNat:Int)=43)))&&(!decide (((loB c).toNat:Int)=45)))&&(!decide (((loB c).toNat:Int)=46)))))=!sch first c:=by
  have:=u8_all (p:=fun c=>decide (∀ first:Bool,((!(Z1 (wr .i64 ((loB c).toNat:Int)) 97 122))&&(first||((((!(Z1 (wr .i64 ((loB c).toNat:Int)) 48 57))&&(!decide (((loB c).toNat:Int)=43)))&&(!decide (((loB c).toNat:Int)=45)))&&(!decide (((loB c).toNat:Int)=46)))))=!sch first c)) (by decide +kernel) c
  exact of_decide_eq_true this
 exact h first
theorem schemeOf_l0 (a:List UInt8) (hl:a.length≤10000000):∀(N i:Nat),a.length - i<N→i≤a.length →
  Z1f (a.map loB) (fun _=>some (a.map loB,true)) N (i:Int)=some (if aOK (decide (i=0)) (a.drop i) then (a.map loB,true) else ([],false))
 | 0,i,hN,hi=>by omega
 | N+1,i,hN,hi=>by
  rw [Z1f,ints_length,List.length_map]
  by_cases h:i<a.length
  ·have ih:=schemeOf_l0 a hl N (i+1) (by omega) (by omega)
   have a1:at? (ints (a.map loB)) (i:Int)=some ((loB a[i]).toNat:Int):=by rw [at_nat,ints_get,List.getElem?_map,List.getElem?_eq_getElem h]; rfl
   rw [if_pos (by simp only [decide_eq_true_eq]; omega),a1,Option.bind_some,show decide ((i:Int)=0)=decide (i=0) from decide_eq_decide.2 (by omega),sch_bad,wi_id (by omega) (by omega),show (i:Int)+1=((i+1:Nat):Int) by omega,ih,List.drop_eq_getElem_cons h,aOK,show decide (i+1=0)=false by simp]
   cases sch (decide (i=0)) a[i] <;> simp
  ·rw [if_neg (by simp only [decide_eq_true_eq]; omega),List.drop_eq_nil_of_le (by omega),aOK]
   rfl
theorem schemeOf_eq (s:List UInt8) (hl:s.length≤10000000):Z3c s=some (match sK true s with | none=>([],false) | some k=>((s.take k).map loB,true)):=by
 unfold Z3c
 show (index? s [58]).bind _=_
 unfold index?
 rw [if_pos (by omega),Option.bind_some]
 rcases index_one 58 s with ⟨h1,h2⟩ | ⟨a,b,rfl,h2,h3⟩
 ·rw [h1,if_pos (by decide)]
  cases hk:sK true s with
  | none=>rfl
  | some k =>
   obtain ⟨-,-,h3,h4,-⟩:=sK_some s true k hk
   exact absurd rfl (h2 58 (List.mem_of_getElem? h4))
 ·rw [h3]
  cases a with
  | nil =>
   rw [if_pos (by decide)]
   have:sK true ([] ++ 58::b)=none:=by
    rw [List.nil_append,sK,if_neg (by simp),if_neg (by decide)]
   rw [this]
  | cons c r =>
   have hlen:(c::r).length≤((c::r) ++ 58::b).length:=by simp
   rw [if_neg (by simp only [decide_eq_true_eq,List.length_cons]; omega),sub_take hlen,Option.bind_some,List.take_left,lower_eq (by omega),Option.bind_some,sK_hit b (c::r) true h2 (fun _=>by simp)]
   refine lim_eq ((c::r).length+1) fun k hk=>?_
   refine (schemeOf_l0 (c::r) (by omega) k 0 (by omega) (by omega)).trans ?_
   rw [List.drop_zero,show decide (0=0)=true from rfl]
   cases aOK true (c::r) with
   | true =>
    rw [if_pos rfl,if_pos rfl]
    show _=some (((c::r ++ 58::b).take (c::r).length).map loB,true)
    rw [List.take_left]
   | false=>rfl
/-! ### ports -/
def dig (c:UInt8):Bool:=decide (48≤c.toNat)&&decide (c.toNat≤57)
def valF (n:Nat) (l:List UInt8):Nat:=l.foldl (fun n c=>10 * n+(c.toNat - 48)) n
theorem valF_lt:∀(l:List UInt8) (n k:Nat),l.all dig=true→n<10 ^ k→valF n l<10 ^ (k+l.length)
 | [],n,k,_,h=>h
 | c::r,n,k,hd,h=>by
  rw [List.all_cons,Bool.and_eq_true] at hd
  have hc:=hd.1
  unfold dig at hc
  simp only [Bool.and_eq_true,decide_eq_true_eq] at hc
  have:=valF_lt r (10 * n+(c.toNat - 48)) (k+1) hd.2 (by rw [Nat.pow_succ]; omega)
  rw [List.length_cons,show k+(r.length+1)=k+1+r.length by omega]
  exact this
theorem parseU:∀(l:List UInt8) (n k:Nat),l.all dig=true→n<10 ^ k→k+l.length≤6→Lib.parseUint10 n l = .ok (valF n l)
 | [],n,k,_,_,_=>rfl
 | c::r,n,k,hd,h,hk=>by
  rw [List.all_cons,Bool.and_eq_true] at hd
  have hc:=hd.1
  unfold dig at hc
  simp only [Bool.and_eq_true,decide_eq_true_eq] at hc
  rw [List.length_cons] at hk
  have hb:(10:Nat) ^ k≤10 ^ 6:=Nat.pow_le_pow_right (by omega) (by omega)
  have hn:n<1000000:=by
   have:(10:Nat) ^ 6=1000000:=by decide
   omega
  rw [Lib.parseUint10,if_pos hc,if_neg (by omega),if_neg (by omega),Nat.mul_comm n 10]
  exact parseU r _ (k+1) hd.2 (by rw [Nat.pow_succ]; omega) (by omega)
theorem atoi_dig (l:List UInt8) (h1:1≤l.length) (h5:l.length≤5) (hd:l.all dig=true):Z6c l=some ((valF 0 l:Int),false):=by
 show atoi? l=_
 unfold atoi?
 rw [if_pos (by omega)]
 have hlt:=valF_lt l 0 0 hd (by decide)
 have hb:(10:Nat) ^ (0+l.length)≤10 ^ 5:=Nat.pow_le_pow_right (by omega) (by omega)
 have h10:(10:Nat) ^ 5=100000:=by decide
 have hp:=parseU l 0 0 hd (by decide) (by omega)
 cases l with
 | nil=>simp at h1
 | cons c r =>
  have hc:=(List.all_eq_true.1 hd) c (List.mem_cons_self ..)
  unfold dig at hc
  simp only [Bool.and_eq_true,decide_eq_true_eq] at hc
  have:Lib.atoiAll (c::r) = .ok (valF 0 (c::r):Int):=by
   unfold Lib.atoiAll
   simp only
   rw [if_neg (show ¬ (c.toNat=43∨c.toNat=45) by omega)]
   unfold Lib.parseMag
   rw [if_neg (by simp),hp]
   simp only
   rw [if_neg (by omega),if_neg (by omega),if_neg (by omega)]
  rw [this]
theorem dig_eq (c:UInt8):([48,49,50,51,52,53,54,55,56,57]:List UInt8).contains c=dig c:=by
 have:=u8_all (p:=fun c=>decide (([48,49,50,51,52,53,54,55,56,57]:List UInt8).contains c=dig c)) (by decide +kernel) c
 exact of_decide_eq_true this
theorem trimDig (s:List UInt8) (hl:s.length≤10000000):∃ r,Z3w s [48,49,50,51,52,53,54,55,56,57]=some r∧(decide (r=[])=s.all dig):=by
 refine ⟨_,(show trim? s _=_ from if_pos ⟨by omega,by decide,by decide⟩),?_⟩
 rw [Bool.eq_iff_iff,decide_eq_true_eq,trimS_nil,List.all_eq_true]
 constructor
 ·intro h x hx; rw [← dig_eq]; exact h x hx
 ·intro h x hx; rw [dig_eq]; exact h x hx
def ownS (t:List UInt8):Int:=if t=[104,116,116,112] then 80 else if t=[104,116,116,112,115] then 443 else 0
theorem own_eq (t:List UInt8):Z2a t=ownS t:=by
 unfold Z2a ownS
 by_cases h1:t=[104,116,116,112]
 ·rw [if_pos (by simpa using h1),if_pos h1]
 ·rw [if_neg (by simpa using h1),if_neg h1]
  by_cases h2:t=[104,116,116,112,115]
  ·rw [if_pos (by simpa using h2),if_pos h2]
  ·rw [if_neg (by simpa using h2),if_neg h2]
def portS (t p:List UInt8):Option Int :=
 if 1≤p.length∧p.length≤5∧p.all dig=true∧1≤valF 0 p∧valF 0 p≤65535 then some (if (valF 0 p:Int)=ownS t then 0 else (valF 0 p:Int)) else none
abbrev upTo (marks s:List UInt8):List UInt8:=s.takeWhile (fun c=>!marks.contains c)
abbrev from' (marks s:List UInt8):List UInt8:=s.dropWhile (fun c=>!marks.contains c)
theorem cut_eq' (s:List UInt8) (c:UInt8):Lib.cut s [c]=(upTo [c] s,(from' [c] s).drop 1,!(from' [c] s).isEmpty):=cut_eq s c
theorem parted_eq' (s marks:List UInt8) (hl:s.length≤10000000) (hm:∀ c,c ∈ marks→c.toNat<128):Z8 s marks=some (upTo marks s,from' marks s):=parted_eq s marks hl hm
theorem indexAny_eq' (marks s:List UInt8):Lib.indexAny s marks=if from' marks s=[] then -1 else ((upTo marks s).length:Int):=indexAny_eq marks s
def placeS (t s:List UInt8):Option (List UInt8×Int) :=
 if hostS ((upTo [58] s).map loB) then (if from' [58] s=[] then some ((upTo [58] s).map loB,0) else (portS t ((from' [58] s).drop 1)).map fun n=>((upTo [58] s).map loB,n)) else none
theorem tw_le {α:Type}(p:α→Bool) (l:List α):(l.takeWhile p).length≤l.length∧(l.dropWhile p).length≤l.length:=by
 have:=dropWhile_take p l
 omega
theorem upTo_le (m s:List UInt8):(upTo m s).length≤s.length:=(tw_le _ s).1
theorem from_le (m s:List UInt8):(from' m s).length≤s.length:=(tw_le _ s).2
theorem place1_eq (u:TJUrl) (s:List UInt8) (hl:s.length≤10000000) (hu:u.Port=0):∃ u',Z41 u s=some ((placeS u.Scheme s).isSome,u')∧∀ h n,placeS u.Scheme s=some (h,n)→u' = ⟨u.Scheme,h,n,u.Path,u.Query,u.Asks,u.Fragment,u.Points⟩:=by
 unfold Z41
 show ∃ u',(cut? s [58]).bind _=_∧_
 unfold cut?
 have t1:=upTo_le [58] s
 have t2:=from_le [58] s
 rw [if_pos (by omega),Option.bind_some,cut_eq']
 obtain ⟨t,ht,hh,ht2⟩:=host_small (upTo [58] s) (by omega)
 simp only
 rw [ht,Option.bind_some,host_eq,Option.bind_some,hh]
 unfold placeS
 cases hg:hostS ((upTo [58] s).map loB) with
 | false =>
  rw [if_pos (by rfl),if_neg (by simp)]
  exact ⟨_,rfl,fun h n hn=>by cases hn⟩
 | true =>
  rw [hg] at hh
  have he:=ht2 hh
  subst he
  rw [if_neg (by simp),if_pos rfl]
  generalize hQ:from' [58] s=q at t2 ⊢
  by_cases hq:q=[]
  ·subst hq
   rw [if_pos rfl,if_pos (by rfl)]
   refine ⟨_,rfl,fun h n hn=>?_⟩
   cases hn
   rw [hu]
  ·have hne:q.isEmpty=false:=by simpa using hq
   rw [if_neg hq,hne,if_neg (by simp)]
   have hpl:(q.drop 1).length≤10000000:=by
    rw [List.length_drop]; omega
   generalize q.drop 1=p at hpl ⊢
   by_cases hb:1≤p.length∧p.length≤5
   ·rw [if_neg (by simp; omega)]
    obtain ⟨r,hr,hrn⟩:=trimDig p hpl
    rw [hr,Option.bind_some,hrn]
    unfold Z2z Z40
    cases hd:p.all dig with
    | false =>
     have e:portS u.Scheme p=none:=by unfold portS; rw [hd,if_neg (by simp)]
     rw [e,if_pos (by rfl)]
     exact ⟨_,rfl,fun h n hn=>by cases hn⟩
    | true =>
     rw [if_neg (by simp),atoi_dig p hb.1 hb.2 hd,Option.bind_some]
     by_cases hv:1≤valF 0 p∧valF 0 p≤65535
     ·have e:portS u.Scheme p=some (if (valF 0 p:Int)=ownS u.Scheme then 0 else (valF 0 p:Int)):=by
       unfold portS; rw [if_pos ⟨hb.1,hb.2,hd,hv.1,hv.2⟩]
      rw [e,if_neg (by simp; omega),own_eq]
      by_cases ho:(valF 0 p:Int)=ownS u.Scheme
      ·rw [if_neg (by simp [ho]),if_pos ho]
       refine ⟨_,rfl,fun h n hn=>?_⟩
       cases hn
       rw [hu]
      ·rw [if_pos (by simp [ho]),if_neg ho]
       refine ⟨_,rfl,fun h n hn=>?_⟩
       cases hn
       rfl
     ·have e:portS u.Scheme p=none:=by unfold portS; rw [if_neg (by omega)]
      rw [e,if_pos (by simp; omega)]
      exact ⟨_,rfl,fun h n hn=>by cases hn⟩
   ·have e:portS u.Scheme p=none:=by unfold portS; rw [if_neg (by omega)]
    rw [e,if_pos (by simp; omega)]
    unfold Z2z
    rw [if_pos rfl]
    exact ⟨_,rfl,fun h n hn=>by cases hn⟩
theorem dig_between (c:UInt8):Z1 (wr .i64 (c.toNat:Int)) 48 57=dig c:=by
 have:=u8_all (p:=fun c=>decide (Z1 (wr .i64 (c.toNat:Int)) 48 57=dig c)) (by decide +kernel) c
 exact of_decide_eq_true this
theorem port_l2 (p q t1 t2 t3:List UInt8) (ra:List UInt8×Bool) (r2:List UInt8×List UInt8) (K:Int→Option (TJUrl×Int)) (hq:q.length≤6) (hp:p.length≤5):∀(N i n:Nat),p.length - i<N→i≤p.length→n<10 ^ i →
  Z17 p (t1,q) ra r2 t3 K N (n:Int) (i:Int)=if (p.drop i).all dig=true then K (valF n (p.drop i):Int) else some (Z0.1,Z0.2)
 | 0,i,n,hN,hi,hn=>by omega
 | N+1,i,n,hN,hi,hn=>by
  rw [Z17,ints_length]
  by_cases h:i<p.length
  ·have a1:at? (ints p) (i:Int)=some (p[i].toNat:Int):=by rw [at_nat,ints_get,List.getElem?_eq_getElem h]; rfl
   have hb:(10:Nat) ^ i≤10 ^ 5:=Nat.pow_le_pow_right (by omega) (by omega)
   have h10:(10:Nat) ^ 5=100000:=by decide
   have hcl:=p[i].toNat_lt
   rw [if_pos (by simp only [decide_eq_true_eq]; omega),a1,Option.bind_some,dig_between,List.drop_eq_getElem_cons h,List.all_cons]
   cases hd:dig p[i] with
   | false=>rw [if_pos (by rfl),if_neg (by simp)]
   | true =>
    have hc:=hd
    unfold dig at hc
    simp only [Bool.and_eq_true,decide_eq_true_eq] at hc
    rw [if_neg (by simp; omega),Bool.true_and]
    have e1:wr .u8 ((p[i].toNat:Int) - 48)=((p[i].toNat - 48:Nat):Int):=by rw [wr_u8]; omega
    have e2:wi (wi (10 * (n:Int))+wr .i64 (wr .u8 ((p[i].toNat:Int) - 48)))=((10 * n+(p[i].toNat - 48):Nat):Int):=by
     rw [e1,wr_i64,wi_id (n:=10 * (n:Int)) (by omega) (by omega),wi_id (n:=((p[i].toNat - 48:Nat):Int)) (by omega) (by omega),wi_id (by omega) (by omega)]
     omega
    rw [e2,wi_id (by omega) (by omega),show (i:Int)+1=((i+1:Nat):Int) by omega,port_l2 p q t1 t2 t3 ra r2 K hq hp N (i+1) _ (by omega) (by omega) (by rw [Nat.pow_succ]; omega)]
    rfl
  ·rw [if_neg (by simp only [decide_eq_true_eq]; omega),List.drop_eq_nil_of_le (by omega)]
   rfl
end Go.Proofs.YtngonchkhmjenaaGreatDoorBv
/- Addresses: queries, fragments, paths. No program is in sight. -/
namespace Go.Proofs.YtngonchkhmjenaaGreatDoorBv
open Go
set_option linter.unusedSimpArgs false
set_option linter.unusedVariables false
theorem decoded_loop (l:List Tunit) (t:Bool) (hl:l.length≤10000000):∀(d i:Nat),i+d=l.length→∀ m,Z16 (l,t) (fun out1=>some (byts out1,t)) (m+d+1) ((l.take i).map uF) l (i:Int)=some (byts (l.map uF),t)
 | 0,i,hi,m=>by
  obtain rfl:i=l.length:=by omega
  rw [Z16,if_neg (by simp),List.take_length]
 | d+1,i,hi,m=>by
  have h:i<l.length:=by omega
  have tk:l.take (i+1)=l.take i ++ [l[i]]:=by rw [List.take_add_one,List.getElem?_eq_getElem h]; rfl
  have ih:=decoded_loop l t hl d (i+1) (by omega) m
  rw [tk,List.map_append] at ih
  rw [Z16,if_pos (by simp only [decide_eq_true_eq]; omega),at_some h,Option.bind_some,appq (by simp; omega),Option.bind_some,wi_id (by omega) (by omega),show (i:Int)+1=((i+1:Nat):Int) by omega,show m+(d+1)=m+d+1 by omega]
  exact ih
theorem decoded_eq (s:List UInt8) (hl:s.length≤10000000):Z3k s=match decU s with | some l=>some (byts (l.map uF),true) | none=>some ([],false):=by
 unfold Z3k
 rw [units_eq s hl]
 cases h:decU s with
 | none =>
  show (some (([]:List Tunit),false)).bind _=_
  rw [Option.bind_some]
  refine lim_add 1 fun m=>?_
  exact decoded_loop [] false (by simp) 0 0 rfl m
 | some l =>
  have hlen:=decU_len s.length s l (Nat.le_refl _) h
  show (some (l,true)).bind _=_
  rw [Option.bind_some]
  refine lim_add (l.length+1) fun m=>?_
  exact decoded_loop l true (by omega) l.length 0 (by omega) m
/-! ### queries and fragments -/
def setC (c:UInt8):Bool:=([33,36,38,39,40,41,42,43,44,59,61,58,64,47,63]:List UInt8).contains c
theorem in_set (c:UInt8):Zu (c.toNat:Int) [33,36,38,39,40,41,42,43,44,59,61,58,64,47,63]=some (setC c):=by
 have:=u8_all (p:=fun c=>decide (Zu (c.toNat:Int) [33,36,38,39,40,41,42,43,44,59,61,58,64,47,63]=some (setC c))) (by decide +kernel) c
 exact of_decide_eq_true this
theorem set_low (c:UInt8) (h:setC c=true):c.toNat<128:=by
 have:=u8_all (p:=fun c=>decide (setC c=true→c.toNat<128)) (by decide +kernel) c
 exact of_decide_eq_true this h
noncomputable def cu1 (c:UInt8) (t:Bool):List UInt8:=if plainB c then [c] else if !t&&setC c then [c] else tri c
theorem cu1_len (c:UInt8) (t:Bool):(cu1 c t).length≤3:=by
 unfold cu1
 split
 ·simp
 ·split
  ·simp
  ·rw [(triple_eq c).2]; exact Nat.le_refl _
noncomputable def cuT (u:Tunit):List UInt8:=cu1 (UInt8.ofNat u.f_c.toNat) u.f_triple
theorem cuT_of (c:UInt8) (t:Bool):cuT ⟨(c.toNat:Int),t⟩=cu1 c t:=by unfold cuT; simp
theorem decU_range:∀(N:Nat) (s:List UInt8) (l:List Tunit),s.length≤N→decU s=some l→∀ u,u ∈ l→∃ c:UInt8,u.f_c=(c.toNat:Int)
 | _,[],l,_,h,u,hu=>by cases h; cases hu
 | 0,c::r,l,h,_,_,_=>by simp at h
 | N+1,c::r,l,hN,h,u,hu=>by
  simp only [List.length_cons] at hN
  by_cases hc:c=37
  ·subst hc
   match r,h,hN with
   | [],h,_=>cases h
   | [d],h,_=>cases h
   | a::b::r,h,hN =>
    rw [decU,if_pos rfl] at h
    split at h
    ·cases h
    ·rename_i hvv
     obtain ⟨l',h1,rfl⟩:=Option.map_eq_some_iff.1 h
     simp only [List.length_cons] at hN
     have ha:=hv_all a
     have hb:=hv_all b
     rcases List.mem_cons.1 hu with rfl | hu
     ·refine ⟨UInt8.ofNat (16 * hv a+hv b).toNat,?_⟩
      simp
      omega
     ·exact decU_range N r l' (by omega) h1 u hu
  ·rw [decU_plain hc] at h
   obtain ⟨l',h1,rfl⟩:=Option.map_eq_some_iff.1 h
   rcases List.mem_cons.1 hu with rfl | hu
   ·exact ⟨c,rfl⟩
   ·exact decU_range N r l' (by omega) h1 u hu
theorem clean_step (c:UInt8) (n:Int) (s out:List UInt8) (hn:n=1∨n=3) (hs:n≤s.length) (ho:out.length≤10000000) (self:List UInt8→List UInt8→Option (List UInt8×Bool)) (K:List UInt8→Option (List UInt8×Bool)) :
  ((Z1o (c.toNat:Int)).bind fun r_5 =>
    if r_5 then
     Ze ((c.toNat:Int),n) s self K out true
    else
     if decide (n=1) then
      (Zu (c.toNat:Int) [33,36,38,39,40,41,42,43,44,59,61,58,64,47,63]).bind fun r_6 =>
      Ze ((c.toNat:Int),n) s self K out r_6
     else
      Ze ((c.toNat:Int),n) s self K out false)=self (s.drop n.toNat) (out ++ cu1 c (decide (n=3))):=by
 have hsub:sub? s n (s.length:Int)=some (s.drop n.toNat):=by
  have:=sub_drop (l:=s) (a:=n.toNat) (by omega)
  rwa [show ((n.toNat:Nat):Int)=n by omega] at this
 have hcl:=c.toNat_lt
 have jt:Ze ((c.toNat:Int),n) s self K out true=self (s.drop n.toNat) (out ++ [c]):=by
  unfold Ze Z30
  rw [if_pos rfl]
  show (bWriteByte? out (c.toNat:Int)).bind _=_
  unfold bWriteByte?
  rw [if_pos ⟨by omega,by omega,by omega⟩,Option.bind_some,hsub,Option.bind_some]
  simp
 have jf:Ze ((c.toNat:Int),n) s self K out false=self (s.drop n.toNat) (out ++ tri c):=by
  unfold Ze Z30
  rw [if_neg (by simp)]
  simp only
  rw [(triple_eq c).1,Option.bind_some]
  show (bWriteString? out (tri c)).bind _=_
  unfold bWriteString?
  rw [if_pos (by rw [(triple_eq c).2]; omega),Option.bind_some,hsub,Option.bind_some]
 rw [plain_eq,Option.bind_some,in_set,jt,jf]
 unfold cu1
 cases hp:plainB c with
 | true=>rw [if_pos rfl,if_pos rfl]
 | false =>
  rw [if_neg (show ¬ (false=true) by simp),if_neg (show ¬ (false=true) by simp)]
  rcases hn with rfl | rfl
  ·rw [if_pos (by rfl),Option.bind_some,show decide ((1:Int)=3)=false by decide,Bool.not_false,Bool.true_and]
   cases setC c with
   | true=>rw [jt,if_pos rfl]
   | false=>rw [jf,if_neg (by simp)]
  ·rw [if_neg (by decide),show decide ((3:Int)=3)=true by decide,if_neg (by simp)]
theorem clean_loop (K:List UInt8→Option (List UInt8×Bool)):∀(N:Nat) (s:List UInt8) (out:List UInt8),s.length<N→3 * s.length+out.length≤10000000 →
  Z6 K N s out=match decU s with | some l=>K (out ++ l.flatMap cuT) | none=>some ([],false)
 | 0,s,out,h,_=>by omega
 | N+1,[],out,h,ho=>by
  rw [Z6,if_neg (by simp)]
  simp [decU]
 | N+1,c::r,out,h,ho=>by
  simp only [List.length_cons] at h ho
  rw [Z6,if_pos (by simp)]
  by_cases hc:c=37
  ·subst hc
   match r,h,ho with
   | [],h,ho=>rw [read_short (by simp),Option.bind_some,if_pos (by decide)]; rfl
   | [d],h,ho=>rw [read_short (by simp),Option.bind_some,if_pos (by decide)]; rfl
   | a::b::r,h,ho =>
    simp only [List.length_cons] at h ho
    have ha:=hv_all a
    have hb:=hv_all b
    rw [read_tri,decU,if_pos rfl]
    by_cases hbad:hv a<0∨hv b<0
    ·rw [if_pos hbad,if_pos hbad,Option.bind_some,if_pos (by decide)]
    ·rw [if_neg hbad,if_neg hbad,Option.bind_some,if_neg (by simp)]
     obtain ⟨x,hx⟩:∃ x:UInt8,16 * hv a+hv b=(x.toNat:Int):=⟨UInt8.ofNat (16 * hv a+hv b).toNat,by simp; omega⟩
     rw [hx]
     refine (clean_step x 3 (37::a::b::r) out (.inr rfl) (by simp; omega) (by omega) _ K).trans ?_
     have hl:=cu1_len x (decide ((3:Int)=3))
     show Z6 K N r _=_
     rw [clean_loop K N r _ (by omega) (by rw [List.length_append]; omega)]
     cases decU r with
     | none=>rfl
     | some l=>simp [cuT_of]
  ·rw [read_plain hc,Option.bind_some,if_neg (by simp)]
   refine (clean_step c 1 (c::r) out (.inl rfl) (by simp; omega) (by omega) _ K).trans ?_
   have hl:=cu1_len c (decide ((1:Int)=3))
   show Z6 K N r _=_
   rw [clean_loop K N r _ (by omega) (by rw [List.length_append]; omega),decU_plain hc]
   cases decU r with
   | none=>rfl
   | some l=>simp [cuT_of]
noncomputable def cleanS (s:List UInt8):List UInt8×Bool:=match decU s with | some l=>(l.flatMap cuT,true) | none=>([],false)
theorem clean_eq (s:List UInt8) (hl:s.length≤1000000):Z31 s=some (cleanS s):=by
 unfold Z31 cleanS
 refine lim_eq (s.length+1) fun k hk=>?_
 rw [clean_loop _ k s [] (by omega) (by simp; omega)]
 cases decU s with
 | none=>rfl
 | some l=>rfl
theorem enc_one (c:UInt8):Z2n [c]=some (enc1 c):=by
 rw [encoded_eq [c] (by simp)]
 unfold encL
 simp
theorem flat_len (l:List Tunit):(l.flatMap cuT).length≤3 * l.length:=by
 induction l with
 | nil=>simp
 | cons u r ih =>
  rw [List.flatMap_cons,List.length_append,List.length_cons]
  have:(cuT u).length≤3:=cu1_len _ _
  omega
theorem cleaned_loop (l:List Tunit) (t:Bool) (hl:l.length≤1000000) (hr:∀ u,u ∈ l→∃ c:UInt8,u.f_c=(c.toNat:Int)):∀(d i:Nat),i+d=l.length→∀ m,Z4 (l,t) (fun out1=>some (out1,t)) (m+d+1) ((l.take i).flatMap cuT) l (i:Int)=some (l.flatMap cuT,t)
 | 0,i,hi,m=>by
  obtain rfl:i=l.length:=by omega
  rw [Z4,if_neg (by simp),List.take_length]
 | d+1,i,hi,m=>by
  have h:i<l.length:=by omega
  have tk:l.take (i+1)=l.take i ++ [l[i]]:=by rw [List.take_add_one,List.getElem?_eq_getElem h]; rfl
  have ih:=cleaned_loop l t hl hr d (i+1) (by omega) m
  obtain ⟨c,hc⟩:=hr l[i] (List.getElem_mem h)
  have hcu:cuT l[i]=cu1 c l[i].f_triple:=by unfold cuT; rw [hc]; simp
  have ho:=flat_len (l.take i)
  rw [List.length_take] at ho
  have h3:=cu1_len c l[i].f_triple
  rw [tk,List.flatMap_append,List.flatMap_cons,List.flatMap_nil,List.append_nil,hcu] at ih
  rw [Z4,if_pos (by simp only [decide_eq_true_eq]; omega),at_some h,Option.bind_some,hc,isPlain_eq,Option.bind_some]
  have jt:Z1y ((l.take i).flatMap cuT) l[i] (i:Int) (l,t) (Z4 (l,t) (fun out1=>some (out1,t)) (m+(d+1))) (fun out1=>some (out1,t)) l true=Z4 (l,t) (fun out1=>some (out1,t)) (m+d+1) ((l.take i).flatMap cuT ++ [c]) l ((i+1:Nat):Int):=by
   unfold Z1y Z3i
   rw [if_pos rfl,hc,byts_one,catq (by rw [List.length_cons,List.length_nil]; omega),Option.bind_some,wi_id (by omega) (by omega)]
   rfl
  have jf:Z1y ((l.take i).flatMap cuT) l[i] (i:Int) (l,t) (Z4 (l,t) (fun out1=>some (out1,t)) (m+(d+1))) (fun out1=>some (out1,t)) l false=Z4 (l,t) (fun out1=>some (out1,t)) (m+d+1) ((l.take i).flatMap cuT ++ enc1 c) l ((i+1:Nat):Int):=by
   have:=enc1_len c
   unfold Z1y Z3i
   rw [if_neg (by simp),hc,byts_one,enc_one,Option.bind_some,catq (by omega),Option.bind_some,wi_id (by omega) (by omega)]
   rfl
  rw [jf]
  unfold cu1 at ih
  have e128:decide ((c.toNat:Int)<128)=decide (c.toNat<128):=decide_eq_decide.2 (by omega)
  rw [e128]
  cases hp:plainB c with
  | true =>
   rw [hp,if_pos rfl] at ih
   have e1:enc1 c=[c]:=by unfold enc1; rw [hp,if_pos rfl]
   rw [if_neg (by simp),e1]
   exact ih
  | false =>
   rw [hp,if_neg (by simp)] at ih
   have e1:enc1 c=tri c:=by unfold enc1; rw [hp,if_neg (by simp)]
   rw [e1]
   cases ht:l[i].f_triple with
   | true =>
    rw [ht,if_neg (by simp)] at ih
    rw [if_neg (by simp)]
    exact ih
   | false =>
    rw [ht] at ih
    by_cases h128:c.toNat<128
    ·rw [if_pos (by simpa using h128),byts_one]
     show (contains? _ [c]).bind _=_
     rw [con_one,Option.bind_some]
     cases hs:setC c with
     | true =>
      rw [hs,if_pos (by rfl)] at ih
      rw [show ([33,36,38,39,40,41,42,43,44,59,61,58,64,47,63]:List UInt8).contains c=true from hs,jt]
      exact ih
     | false =>
      rw [hs,if_neg (by simp)] at ih
      rw [show ([33,36,38,39,40,41,42,43,44,59,61,58,64,47,63]:List UInt8).contains c=false from hs,jf,e1]
      exact ih
    ·have hs:setC c=false:=by
      cases hs:setC c with
      | false=>rfl
      | true=>exact absurd (set_low c hs) h128
     rw [hs,if_neg (by simp)] at ih
     rw [if_neg (by simpa using h128)]
     exact ih
theorem cleaned_eq (s:List UInt8) (hl:s.length≤1000000):Z1z s=some (cleanS s):=by
 unfold Z1z cleanS
 rw [units_eq s (by omega)]
 cases h:decU s with
 | none =>
  show (some (([]:List Tunit),false)).bind _=_
  rw [Option.bind_some]
  refine lim_add 1 fun m=>?_
  exact cleaned_loop [] false (by simp) (fun u hu=>by cases hu) 0 0 rfl m
 | some l =>
  have hlen:=decU_len s.length s l (Nat.le_refl _) h
  show (some (l,true)).bind _=_
  rw [Option.bind_some]
  refine lim_add (l.length+1) fun m=>?_
  exact cleaned_loop l true (by omega) (decU_range s.length s l (Nat.le_refl _) h) l.length 0 (by omega) m
/-! ### tails -/
noncomputable def tailS (u:TJUrl) (s:List UInt8):List UInt8×Bool×TJUrl :=
 let q:=from' [63] (upTo [35] s)
 let f:=from' [35] s
 (upTo [63] (upTo [35] s),((cleanS (q.drop 1)).2&&(cleanS (f.drop 1)).2),⟨u.Scheme,u.Host,u.Port,u.Path,(cleanS (q.drop 1)).1,!q.isEmpty,(cleanS (f.drop 1)).1,!f.isEmpty⟩)
theorem tail_eq (u:TJUrl) (s:List UInt8) (hl:s.length≤1000000):Z2c u s=some (tailS u s):=by
 have h1:=upTo_le [35] s
 have h2:=from_le [35] s
 have h3:=from_le [63] (upTo [35] s)
 unfold Z2c tailS
 show (cut? s [35]).bind _=_
 unfold cut?
 rw [if_pos (by omega),Option.bind_some,cut_eq']
 show (cut? (upTo [35] s) [63]).bind _=_
 unfold cut?
 rw [if_pos (by omega),Option.bind_some,cut_eq']
 simp only
 rw [clean_eq _ (by rw [List.length_drop]; omega),Option.bind_some,clean_eq _ (by rw [List.length_drop]; omega),Option.bind_some]
theorem trim_from (c:UInt8) (s:List UInt8):Z7 (from' [c] s) [c]=some ((from' [c] s).drop 1):=by
 rw [trimPre_eq]
 rcases drop_head s c with h | ⟨r,h⟩
 ·rw [show from' [c] s=[] from h]; rfl
 ·rw [show from' [c] s=c::r from h,if_pos (by simp)]
  rfl
theorem tailOf_eq (u:TJUrl) (s:List UInt8) (hl:s.length≤1000000):Z3j u s=some (tailS u s):=by
 have h1:=upTo_le [35] s
 have h2:=from_le [35] s
 have h3:=from_le [63] (upTo [35] s)
 have low:∀ b:UInt8,b.toNat<128→∀ c,c ∈ [b]→c.toNat<128:=fun b hb c hc=>by rw [List.mem_singleton] at hc; subst hc; exact hb
 unfold Z3j tailS
 rw [parted_eq' s [35] (by omega) (low 35 (by decide)),Option.bind_some,parted_eq' (upTo [35] s) [63] (by omega) (low 63 (by decide)),Option.bind_some]
 simp only
 rw [trim_from,Option.bind_some,cleaned_eq _ (by rw [List.length_drop]; omega),Option.bind_some,trim_from,Option.bind_some,cleaned_eq _ (by rw [List.length_drop]; omega),Option.bind_some]
 have e:∀ l:List UInt8,(!decide (l=[]))=!l.isEmpty:=fun l=>by cases l <;> rfl
 rw [e,e]
end Go.Proofs.YtngonchkhmjenaaGreatDoorBv
/- Addresses: paths; a text as an address. No program is in sight. -/
namespace Go.Proofs.YtngonchkhmjenaaGreatDoorBv
open Go
set_option linter.unusedSimpArgs false
set_option linter.unusedVariables false
/-! ### segments -/
noncomputable def dec1 (p:List UInt8):Option (List UInt8):=(decU p).map fun l=>byts (l.map uF)
noncomputable def segL:List (List UInt8)→Option (List (List UInt8))
 | []=>some []
 | p::r=>(dec1 p).bind fun d=>(segL r).map (d::·)
theorem decode1 (p:List UInt8) (hl:p.length≤1000000):Z32 p=some (match dec1 p with | some d=>(d,0) | none=>([],3)):=by
 rw [decode_eq p (by omega)]
 unfold dec1
 cases decU p <;> rfl
theorem decoded1 (p:List UInt8) (hl:p.length≤1000000):Z3k p=some (match dec1 p with | some d=>(d,true) | none=>([],false)):=by
 rw [decoded_eq p (by omega)]
 unfold dec1
 cases decU p <;> rfl
theorem seg_l0 (r:List (List UInt8)) (hl:r.length≤1000000) (hm:∀ p,p ∈ r→p.length≤1000000):∀(N i:Nat) (out:List (List UInt8)),r.length - i<N→i≤r.length→out.length≤i →
  Z19 r (fun out1=>some (out1,true)) N out r (i:Int)=some (match segL (r.drop i) with | some l=>(out ++ l,true) | none=>([],false))
 | 0,i,out,hN,hi,ho=>by omega
 | N+1,i,out,hN,hi,ho=>by
  rw [Z19]
  by_cases h:i<r.length
  ·rw [if_pos (by simp only [decide_eq_true_eq]; omega),at_some h,Option.bind_some,decode1 _ (hm _ (List.getElem_mem h)),Option.bind_some,List.drop_eq_getElem_cons h,segL]
   cases hd:dec1 r[i] with
   | none=>rw [if_pos (by simp)]; rfl
   | some d =>
    rw [if_neg (by simp)]
    simp only
    rw [appq (by simp; omega),Option.bind_some,wi_id (by omega) (by omega),show (i:Int)+1=((i+1:Nat):Int) by omega,seg_l0 r hl hm N (i+1) _ (by omega) (by omega) (by simp; omega),Option.bind_some]
    cases segL (r.drop (i+1)) with
    | none=>rfl
    | some l=>simp
  ·rw [if_neg (by simp only [decide_eq_true_eq]; omega),List.drop_eq_nil_of_le (by omega),segL]
   simp
noncomputable def segS (s:List UInt8):Option (List (List UInt8)):=segL (cutB 47 s)
theorem segments_eq (s:List UInt8) (hl:s.length≤100000):Z2e s=some (match segS s with | some l=>(l,true) | none=>([],false)):=by
 unfold Z2e segS
 show (split? s [47]).bind _=_
 have hc:=cutB_length 47 s
 rw [split_one (by omega),Option.bind_some]
 refine lim_eq ((cutB 47 s).length+1) fun k hk=>?_
 have:=seg_l0 (cutB 47 s) (by omega) (fun p hp=>by have:=(cutB_mem hp).2; omega) k 0 [] (by omega) (by omega) (by simp)
 rw [List.drop_zero] at this
 exact this
noncomputable def decOr (p:List UInt8):List UInt8:=(dec1 p).getD []
theorem segL_some:∀(r l:List (List UInt8)),segL r=some l→l=r.map decOr
 | [],l,h=>by cases h; rfl
 | p::r,l,h=>by
  rw [segL] at h
  obtain ⟨d,hd,h⟩:=Option.bind_eq_some_iff.1 h
  obtain ⟨l',h1,rfl⟩:=Option.map_eq_some_iff.1 h
  rw [List.map_cons,← segL_some r l' h1]
  congr 1
  unfold decOr
  rw [hd]
  rfl
theorem segOf_l0 (r:List (List UInt8)) (hl:r.length≤1000000) (hm:∀ p,p ∈ r→p.length≤1000000):∀(N i:Nat) (all:Bool) (out:List (List UInt8)),r.length - i<N→i≤r.length→out.length≤i →
  Z1h r (fun a o=>some (o,a)) N all out r (i:Int)=some (out ++ (r.drop i).map decOr,all&&(segL (r.drop i)).isSome)
 | 0,i,all,out,hN,hi,ho=>by omega
 | N+1,i,all,out,hN,hi,ho=>by
  rw [Z1h]
  by_cases h:i<r.length
  ·rw [if_pos (by simp only [decide_eq_true_eq]; omega),at_some h,Option.bind_some,decoded1 _ (hm _ (List.getElem_mem h)),Option.bind_some,List.drop_eq_getElem_cons h,segL,List.map_cons]
   cases hd:dec1 r[i] with
   | none =>
    simp only
    rw [appq (by simp; omega),Option.bind_some,wi_id (by omega) (by omega),show (i:Int)+1=((i+1:Nat):Int) by omega,segOf_l0 r hl hm N (i+1) (all&&false) (out ++ [[]]) (by omega) (by omega) (by simp; omega)]
    have e:decOr r[i]=[]:=by unfold decOr; rw [hd]; rfl
    rw [e]
    simp
   | some d =>
    simp only
    rw [appq (by simp; omega),Option.bind_some,wi_id (by omega) (by omega),show (i:Int)+1=((i+1:Nat):Int) by omega,segOf_l0 r hl hm N (i+1) (all&&true) (out ++ [d]) (by omega) (by omega) (by simp; omega)]
    have e:decOr r[i]=d:=by unfold decOr; rw [hd]; rfl
    rw [e]
    simp
  ·rw [if_neg (by simp only [decide_eq_true_eq]; omega),List.drop_eq_nil_of_le (by omega),segL]
   simp
theorem segOf_eq (s:List UInt8) (hl:s.length≤100000):Z3l s=some ((cutB 47 s).map decOr,(segS s).isSome):=by
 unfold Z3l segS
 show (split? s [47]).bind _=_
 have hc:=cutB_length 47 s
 rw [split_one (by omega),Option.bind_some]
 refine lim_eq ((cutB 47 s).length+1) fun k hk=>?_
 have:=segOf_l0 (cutB 47 s) (by omega) (fun p hp=>by have:=(cutB_mem hp).2; omega) k 0 true [] (by omega) (by omega) (by simp)
 rw [List.drop_zero] at this
 exact this
theorem segL_len:∀(r l:List (List UInt8)),segL r=some l→l.length=r.length:=fun r l h=>by rw [segL_some r l h,List.length_map]
/-! ### tidied -/
def dotty (x:List UInt8):Bool:=decide (x=[46])||decide (x=[46,46])
def tstep (out:List (List UInt8)) (x:List UInt8):List (List UInt8):=if dotty x then (if x=[46,46]∧out≠[] then out.take (out.length - 1) else out) else out ++ [x]
theorem tstep_len (out:List (List UInt8)) (x:List UInt8):(tstep out x).length≤out.length+1:=by
 unfold tstep
 split
 ·split
  ·rw [List.length_take]; omega
  ·omega
 ·simp
def tgo:List (List UInt8)→List (List UInt8)→List (List UInt8)
 | out,[]=>out
 | out,[x]=>if dotty x then tstep out x ++ [[]] else tstep out x
 | out,x::y::r=>tgo (tstep out x) (y::r)
theorem pos_ne {α:Type}(out:List α):decide (0<(out.length:Int))=decide (out≠[]):=by
 cases out <;> simp
theorem tidy_l0 (l:List (List UInt8)) (hl:l.length≤1000000) (K:List (List UInt8)→Option (List (List UInt8))):∀(N i:Nat) (out:List (List UInt8)),l.length - i<N→i≤l.length→out.length≤i →
  Z2 l K N out (i:Int)=K (tgo out (l.drop i))
 | 0,i,out,hN,hi,ho=>by omega
 | N+1,i,out,hN,hi,ho=>by
  rw [Z2]
  by_cases h:i<l.length
  ·have hs:=tstep_len out l[i]
   have last:decide ((i:Int)=wi ((l.length:Int) - 1))=decide (i+1=l.length):=by
    rw [wi_id (by omega) (by omega)]
    exact decide_eq_decide.2 (by omega)
   have ih:∀ o:List (List UInt8),o.length≤i+1→Z2 l K N o ((i+1:Nat):Int)=K (tgo o (l.drop (i+1))):=fun o h=>tidy_l0 l hl K N (i+1) o (by omega) (by omega) (by omega)
   have j11:∀ o:List (List UInt8),Z2f (i:Int) l (Z2 l K N) K o=Z2 l K N o ((i+1:Nat):Int):=by
    intro o
    unfold Z2f
    rw [wi_id (by omega) (by omega)]; rfl
   have goal:K (tgo out (l.drop i))=if dotty l[i]=true∧i+1=l.length then K (tstep out l[i] ++ [[]]) else K (tgo (tstep out l[i]) (l.drop (i+1))):=by
    rw [List.drop_eq_getElem_cons h]
    by_cases hlast:i+1=l.length
    ·rw [List.drop_eq_nil_of_le (by omega),tgo,tgo]
     cases dotty l[i] with
     | true=>rw [if_pos rfl,if_pos ⟨rfl,hlast⟩]
     | false=>rw [if_neg (by simp),if_neg (by simp)]
    ·rw [if_neg (by simp [hlast])]
     rw [List.drop_eq_getElem_cons (show i+1<l.length by omega),tgo]
   have j12:∀ o:List (List UInt8),o=tstep out l[i]→o.length≤i→dotty l[i]=true→Z34 (i:Int) l (Z2 l K N) K o=K (tgo out (l.drop i)):=by
    rintro o rfl h2 hd
    unfold Z34
    rw [goal,last]
    by_cases hlast:i+1=l.length
    ·rw [if_pos (by simpa using hlast),appq (by simp; omega),Option.bind_some,j11,ih _ (by simp; omega),if_pos ⟨hd,hlast⟩,List.drop_eq_nil_of_le (by omega),tgo]
    ·rw [if_neg (by simpa using hlast),j11,ih _ (by omega),if_neg (by simp [hlast])]
   rw [if_pos (by simp only [decide_eq_true_eq]; omega),at_some h,Option.bind_some,pos_ne]
   by_cases hd:dotty l[i]=true
   ·have hn:((!decide (l[i]=[46]))&&(!decide (l[i]=[46,46])))=false:=by
     unfold dotty at hd
     revert hd
     cases decide (l[i]=[46]) <;> cases decide (l[i]=[46,46]) <;> simp
    rw [hn,if_neg (by simp)]
    by_cases h2:l[i]=[46,46]∧out≠[]
    ·have hlen:1≤out.length:=by
      cases out with
      | nil=>exact absurd rfl h2.2
      | cons a b=>simp
     have hsub:sub? out 0 (wi ((out.length:Int) - 1))=some (out.take (out.length - 1)):=by
      rw [wi_id (by omega) (by omega),show (out.length:Int) - 1=((out.length - 1:Nat):Int) by omega,sub_take (by omega)]
     rw [if_pos (by simp [h2.1,h2.2]),hsub,Option.bind_some]
     exact j12 _ (by unfold tstep; rw [if_pos hd,if_pos h2]) (by rw [List.length_take]; omega) hd
    ·rw [if_neg (by simpa using h2)]
     exact j12 _ (by unfold tstep; rw [if_pos hd,if_neg h2]) (by omega) hd
   ·have hn:((!decide (l[i]=[46]))&&(!decide (l[i]=[46,46])))=true:=by
     unfold dotty at hd
     revert hd
     cases decide (l[i]=[46]) <;> cases decide (l[i]=[46,46]) <;> simp
    have e:tstep out l[i]=out ++ [l[i]]:=by unfold tstep; rw [if_neg hd]
    rw [hn,if_pos rfl,appq (by simp; omega),Option.bind_some,j11,ih _ (by simp; omega),goal,if_neg (fun hh=>hd hh.1),e]
  ·rw [if_neg (by simp only [decide_eq_true_eq]; omega),List.drop_eq_nil_of_le (by omega),tgo]
theorem tidied_l0 (l:List (List UInt8)) (hl:l.length≤1000000) (K:List (List UInt8)→Option (List (List UInt8))):∀(N i:Nat) (out:List (List UInt8)),l.length - i<N→i≤l.length→out.length≤i →
  Zg l K N out (i:Int)=K ((l.drop i).foldl tstep out)
 | 0,i,out,hN,hi,ho=>by omega
 | N+1,i,out,hN,hi,ho=>by
  rw [Zg]
  by_cases h:i<l.length
  ·have hs:=tstep_len out l[i]
   have ih:=tidied_l0 l hl K N (i+1) (tstep out l[i]) (by omega) (by omega) (by omega)
   have j3:∀ o:List (List UInt8),o=tstep out l[i]→Z2p (i:Int) l (Zg l K N) K o=K ((l.drop i).foldl tstep out):=by
    rintro o rfl
    unfold Z2p
    rw [wi_id (by omega) (by omega),show (i:Int)+1=((i+1:Nat):Int) by omega,ih,List.drop_eq_getElem_cons h,List.foldl_cons]
   rw [if_pos (by simp only [decide_eq_true_eq]; omega),at_some h,Option.bind_some,pos_ne]
   by_cases h2:l[i]=[46,46]∧out≠[]
   ·have hlen:1≤out.length:=by
     cases out with
     | nil=>exact absurd rfl h2.2
     | cons a b=>simp
    have hsub:sub? out 0 (wi ((out.length:Int) - 1))=some (out.take (out.length - 1)):=by
     rw [wi_id (by omega) (by omega),show (out.length:Int) - 1=((out.length - 1:Nat):Int) by omega,sub_take (by omega)]
    rw [if_pos (by simp [h2.1,h2.2]),hsub,Option.bind_some]
    exact j3 _ (by unfold tstep; rw [if_pos (by unfold dotty; simp [h2.1]),if_pos h2])
   ·rw [if_neg (by simpa using h2)]
    by_cases hd:dotty l[i]=true
    ·have hn:((!decide (l[i]=[46]))&&(!decide (l[i]=[46,46])))=false:=by
      unfold dotty at hd
      revert hd
      cases decide (l[i]=[46]) <;> cases decide (l[i]=[46,46]) <;> simp
     rw [hn,if_neg (by simp)]
     exact j3 _ (by unfold tstep; rw [if_pos hd,if_neg h2])
    ·have hn:((!decide (l[i]=[46]))&&(!decide (l[i]=[46,46])))=true:=by
      unfold dotty at hd
      revert hd
      cases decide (l[i]=[46]) <;> cases decide (l[i]=[46,46]) <;> simp
     rw [hn,if_pos rfl,appq (by simp; omega),Option.bind_some]
     exact j3 _ (by unfold tstep; rw [if_neg hd])
  ·rw [if_neg (by simp only [decide_eq_true_eq]; omega),List.drop_eq_nil_of_le (by omega)]
   rfl
theorem tgo_fold:∀(l out:List (List UInt8)),tgo out l=match l.getLast? with | some x=>if dotty x then l.foldl tstep out ++ [[]] else l.foldl tstep out | none=>out
 | [],out=>rfl
 | [x],out=>rfl
 | x::y::r,out=>by
  rw [tgo,tgo_fold (y::r) (tstep out x),List.getLast?_cons_cons]
  simp only [List.foldl_cons]
  cases h:(y::r).getLast? with
  | none=>simp at h
  | some z=>rfl
theorem fold_len:∀(l out:List (List UInt8)),(l.foldl tstep out).length≤out.length+l.length
 | [],out=>by simp
 | x::r,out=>by
  have h1:=fold_len r (tstep out x)
  have h2:=tstep_len out x
  rw [List.foldl_cons,List.length_cons]
  omega
theorem len0 {α:Type}(o:List α) [DecidableEq α]:decide ((o.length:Int)=0)=decide (o=[]):=decide_eq_decide.2 ⟨fun h=>List.length_eq_zero_iff.1 (by omega),fun h=>by subst h; rfl⟩
def tidyS (l:List (List UInt8)):List (List UInt8):=if tgo [] l=[] then [[]] else tgo [] l
theorem tidy_eq (l:List (List UInt8)) (hl:l.length≤1000000):Z2g l=some (tidyS l):=by
 unfold Z2g tidyS
 refine lim_eq (l.length+1) fun k hk=>?_
 refine (tidy_l0 l hl _ k 0 [] (by omega) (by omega) (by simp)).trans ?_
 rw [List.drop_zero]
 unfold Z43
 rw [len0]
 by_cases h:tgo [] l=[]
 ·rw [if_pos (by simpa using h),if_pos h]
 ·rw [if_neg (by simpa using h),if_neg h]
theorem tidied_eq (l:List (List UInt8)) (hl:l.length≤1000000):Z3m l=some (tidyS l):=by
 unfold Z3m tidyS
 refine lim_eq (l.length+1) fun k hk=>?_
 refine (tidied_l0 l hl _ k 0 [] (by omega) (by omega) (by simp)).trans ?_
 rw [List.drop_zero,tgo_fold]
 have hf:=fold_len l []
 rw [List.length_nil] at hf
 have app:∀ o:List (List UInt8),o.length≤1000000→∀ b:Bool,Z2q o b=some (if b then o ++ [[]] else o):=by
  intro o ho b
  unfold Z2q Z51
  cases b with
  | true=>rw [if_pos rfl,appq (by simp; omega),Option.bind_some,if_pos rfl]
  | false=>rw [if_neg (by simp),if_neg (by simp)]
 cases hx:l.getLast? with
 | none =>
  have:l=[]:=by simpa using hx
  subst this
  rfl
 | some x =>
  have hne:l≠[]:=by rintro rfl; simp at hx
  have hpos:0<l.length:=List.length_pos_iff.2 hne
  have hlast:at? l (wi ((l.length:Int) - 1))=some x:=by
   rw [wi_id (by omega) (by omega),show (l.length:Int) - 1=((l.length - 1:Nat):Int) by omega,at_nat,← List.getLast?_eq_getElem?]
   exact hx
  rw [if_pos (by simp only [decide_eq_true_eq]; omega),hlast,Option.bind_some,Option.bind_some,app _ (by omega),app _ (by omega),len0]
  simp only
  generalize l.foldl tstep []=o
  have nn:o ++ [[]]≠([]:List (List UInt8)):=by simp
  by_cases h1:x=[46]
  ·have hd:dotty x=true:=by unfold dotty; simp [h1]
   rw [hd,if_pos (by simpa using h1),if_pos rfl,if_neg nn]
   simp
  ·rw [if_neg (by simpa using h1)]
   by_cases h2:x=[46,46]
   ·have hd:dotty x=true:=by unfold dotty; simp [h2]
    rw [hd,show decide (x=[46,46])=true by simpa using h2,Bool.true_or,if_pos rfl,if_neg nn]
   ·have hd:dotty x=false:=by unfold dotty; simp [h1,h2]
    rw [hd,show decide (x=[46,46])=false by simpa using h2,Bool.false_or,if_neg (show ¬ (false=true) by simp)]
    by_cases ho:o=[]
    ·rw [if_pos (by simpa using ho),if_pos ho,ho]; rfl
    ·rw [if_neg (by simpa using ho),if_neg ho]
end Go.Proofs.YtngonchkhmjenaaGreatDoorBv
/- A text as an address: the program's and the document's answers are one. No program is in sight. -/
namespace Go.Proofs.YtngonchkhmjenaaGreatDoorBv
open Go
set_option linter.unusedSimpArgs false
set_option linter.unusedVariables false
abbrev noU:TJUrl:=⟨[],[],0,[],[],false,[],false⟩
noncomputable def endS (t h:List UInt8) (n:Int) (s:List UInt8):TJUrl×Int :=
 let r:=tailS ⟨t,h,n,[],[],false,[],false⟩ s
 let p:=if r.1.take 1=[47] then r.1.drop 1 else r.1
 match segS p with
 | some l=>if r.2.1 then (⟨t,h,n,tidyS l,r.2.2.Query,r.2.2.Asks,r.2.2.Fragment,r.2.2.Points⟩,0) else (noU,3)
 | none=>(noU,3)
noncomputable def addrS (s:List UInt8):TJUrl×Int :=
 if 500<s.length then (noU,2) else
 match sK true s with
 | none=>(noU,3)
 | some k =>
  let t:=(s.take k).map loB
  let r:=s.drop (k+1)
  if r.take 2=[47,47] then
   match placeS t (upTo [47,63,35] (r.drop 2)) with
   | some (h,n)=>endS t h n (from' [47,63,35] (r.drop 2))
   | none=>(noU,3)
  else (noU,3)
theorem seg_len {s:List UInt8}{l:List (List UInt8)}(h:segS s=some l):l.length≤s.length+1:=by
 have h1:=segL_len _ _ h
 have h2:=cutB_length 47 s
 omega
theorem parse_end (t h:List UInt8) (n:Int) (s:List UInt8) (hl:s.length≤1000) (u' : TJUrl) (hu:u' = ⟨t,h,n,[],[],false,[],false⟩) :
  ((Z2c u' s).bind fun r_6 =>
  (Z7 r_6.1 [47]).bind fun r_7 =>
  (Z2e r_7).bind fun r_8 =>
  if ((!r_6.2.1)||(!r_8.2)) then
   some ((⟨[],[],0,[],[],false,[],false⟩:TJUrl),(3:Int))
  else
   (Z2g r_8.1).bind fun r_9 =>
   some ((⟨r_6.2.2.Scheme,r_6.2.2.Host,r_6.2.2.Port,r_9,r_6.2.2.Query,r_6.2.2.Asks,r_6.2.2.Fragment,r_6.2.2.Points⟩:TJUrl),0))=some (endS t h n s):=by
 subst hu
 have h1:=upTo_le [35] s
 have h2:=upTo_le [63] (upTo [35] s)
 rw [tail_eq _ s (by omega),Option.bind_some,trimPre_eq,Option.bind_some]
 unfold endS
 simp only [List.length_cons,List.length_nil,Nat.zero_add]
 have hp:(if (tailS ⟨t,h,n,[],[],false,[],false⟩ s).1.take 1=[47] then (tailS ⟨t,h,n,[],[],false,[],false⟩ s).1.drop 1 else (tailS ⟨t,h,n,[],[],false,[],false⟩ s).1).length≤1000:=by
  have:(tailS ⟨t,h,n,[],[],false,[],false⟩ s).1.length≤1000:=by show (upTo [63] (upTo [35] s)).length≤1000; omega
  split
  ·rw [List.length_drop]; omega
  ·exact this
 generalize (if (tailS ⟨t,h,n,[],[],false,[],false⟩ s).1.take 1=[47] then (tailS ⟨t,h,n,[],[],false,[],false⟩ s).1.drop 1 else (tailS ⟨t,h,n,[],[],false,[],false⟩ s).1)=p at hp ⊢
 rw [segments_eq p (by omega),Option.bind_some]
 cases hs:segS p with
 | none=>simp
 | some l =>
  have hll:=seg_len hs
  simp only
  rw [tidy_eq l (by omega),Option.bind_some]
  cases (tailS ⟨t,h,n,[],[],false,[],false⟩ s).2.1 with
  | true=>simp; exact ⟨rfl,rfl,rfl⟩
  | false=>simp
theorem parse_eq (s:List UInt8):Z1q s=some (addrS s):=by
 unfold Z1q addrS
 by_cases h500:500<s.length
 ·rw [if_pos (by simp only [decide_eq_true_eq]; omega),if_pos h500]
 rw [if_neg (by simp only [decide_eq_true_eq]; omega),if_neg h500,scheme_eq s (by omega),Option.bind_some,cutPre_eq,Option.bind_some]
 unfold schemeS
 cases hk:sK true s with
 | none=>simp
 | some k =>
  simp only [List.length_cons,List.length_nil,Nat.zero_add]
  generalize hr:s.drop (k+1)=r
  have hrl:r.length≤500:=by rw [← hr,List.length_drop]; omega
  generalize (s.take k).map loB=t
  by_cases h2:r.take 2=[47,47]
  ·rw [if_pos h2,if_pos h2,if_neg (by simp)]
   simp only
   generalize hx:r.drop 2=x
   have hxl:x.length≤500:=by rw [← hx,List.length_drop]; omega
   show (indexAny? x [47,63,35]).bind _=_
   unfold indexAny?
   rw [if_pos ⟨by omega,by decide,by decide⟩,Option.bind_some,indexAny_eq']
   have tx:=dropWhile_take (fun c:UInt8=>!([47,63,35]:List UInt8).contains c) x
   have e1:x.take (upTo [47,63,35] x).length=upTo [47,63,35] x:=take_takeWhile _ x
   have e2:x.drop (upTo [47,63,35] x).length=from' [47,63,35] x:=drop_takeWhile _ x
   have hup:=upTo_le [47,63,35] x
   have hfr:=from_le [47,63,35] x
   have key:Z35 (x,true) (t,r,true) ((upTo [47,63,35] x).length:Int)=some (match placeS t (upTo [47,63,35] x) with
     | some (h,n)=>endS t h n (from' [47,63,35] x)
     | none=>(noU,3)):=by
    unfold Z35
    simp only
    rw [sub_take hup,Option.bind_some,e1]
    obtain ⟨u',hu1,hu2⟩:=place1_eq ⟨t,[],0,[],[],false,[],false⟩ (upTo [47,63,35] x) (by omega) rfl
    rw [hu1,Option.bind_some]
    simp only at hu2 ⊢
    cases hp:placeS t (upTo [47,63,35] x) with
    | none=>simp
    | some hn =>
     obtain ⟨h,n⟩:=hn
     rw [if_neg (by simp),sub_drop hup,Option.bind_some,e2]
     exact parse_end t h n _ (by omega) u' (hu2 h n hp)
   by_cases hf:from' [47,63,35] x=[]
   ·have hlen:(upTo [47,63,35] x).length=x.length:=by
     have:(from' [47,63,35] x).length=0:=by rw [hf]; rfl
     have tx' : (upTo [47,63,35] x).length+(from' [47,63,35] x).length=x.length:=tx
     omega
    rw [if_pos hf,if_pos (by decide),← hlen]
    exact key
   ·rw [if_neg hf,if_neg (by simp)]
    exact key
  ·rw [if_neg h2,if_neg h2,if_pos (by simp)]
theorem trim_take (s:List UInt8):Z7 s [47]=some (if s.take 1=[47] then s.drop 1 else s):=trimPre_eq s [47]
theorem addr_j2 (t h:List UInt8) (n:Int) (p s:List UInt8) (hl:s.length≤1000) (b:Bool):Z2r (t,b) h (p,s) n=some (endS t h n s):=by
 have h1:=upTo_le [35] s
 have h2:=upTo_le [63] (upTo [35] s)
 unfold Z2r
 simp only
 rw [tailOf_eq _ s (by omega),Option.bind_some,trim_take,Option.bind_some]
 unfold endS
 simp only
 have hp:(if (tailS ⟨t,h,n,[],[],false,[],false⟩ s).1.take 1=[47] then (tailS ⟨t,h,n,[],[],false,[],false⟩ s).1.drop 1 else (tailS ⟨t,h,n,[],[],false,[],false⟩ s).1).length≤1000:=by
  have:(tailS ⟨t,h,n,[],[],false,[],false⟩ s).1.length≤1000:=by show (upTo [63] (upTo [35] s)).length≤1000; omega
  split
  ·rw [List.length_drop]; omega
  ·exact this
 generalize (if (tailS ⟨t,h,n,[],[],false,[],false⟩ s).1.take 1=[47] then (tailS ⟨t,h,n,[],[],false,[],false⟩ s).1.drop 1 else (tailS ⟨t,h,n,[],[],false,[],false⟩ s).1)=p' at hp ⊢
 rw [segOf_eq p' (by omega),Option.bind_some]
 cases hs:segS p' with
 | none=>simp [Z0]
 | some l =>
  have hll:=seg_len hs
  have hml:=segL_some _ _ hs
  simp only
  rw [← hml,tidied_eq l (by omega),Option.bind_some]
  cases (tailS ⟨t,h,n,[],[],false,[],false⟩ s).2.1 with
  | true=>simp; exact ⟨rfl,rfl,rfl⟩
  | false=>simp [Z0]
theorem no_eq:(some (Z0.1,Z0.2):Option (TJUrl×Int))=some (noU,3):=rfl
theorem low3:∀ c,c ∈ ([47,63,35]:List UInt8)→c.toNat<128:=by decide
theorem low1:∀ c,c ∈ ([58]:List UInt8)→c.toNat<128:=by decide
theorem addr_j1 (s:List UInt8) (k:Nat) (hk:k+3≤s.length) (hl:s.length≤500):Z20 s ((s.take k).map loB,true) false=some (match placeS ((s.take k).map loB) (upTo [47,63,35] (s.drop (k+3))) with
   | some (h,n)=>endS ((s.take k).map loB) h n (from' [47,63,35] (s.drop (k+3)))
   | none=>(noU,3)):=by
 unfold Z20
 rw [if_neg (by simp)]
 simp only
 have hlen:((s.take k).map loB).length=k:=by rw [List.length_map,List.length_take]; omega
 rw [hlen,wi_id (by omega) (by omega),show (k:Int)+3=((k+3:Nat):Int) by omega,sub_drop hk,Option.bind_some,no_eq]
 generalize (s.take k).map loB=t
 generalize hx:s.drop (k+3)=x
 have hxl:x.length≤500:=by rw [← hx,List.length_drop]; omega
 have hup:=upTo_le [47,63,35] x
 have hfr:=from_le [47,63,35] x
 rw [parted_eq' x [47,63,35] (by omega) low3,Option.bind_some]
 generalize upTo [47,63,35] x=y at hup ⊢
 generalize from' [47,63,35] x=z at hfr ⊢
 have hy1:=upTo_le [58] y
 have hy2:=from_le [58] y
 simp only
 rw [parted_eq' y [58] (by omega) low1,Option.bind_some]
 simp only
 rw [lower_eq (by omega),Option.bind_some,hostRight_eq,Option.bind_some]
 unfold placeS
 cases hh:hostS ((upTo [58] y).map loB) with
 | false=>simp
 | true =>
  rw [if_neg (by simp),if_pos rfl]
  by_cases hq:from' [58] y=[]
  ·rw [hq,if_neg (by simp),if_pos rfl]
   exact addr_j2 t _ 0 y z (by omega) true
  ·rw [if_neg hq,if_pos (by simpa using hq)]
   have hpos:1≤(from' [58] y).length:=List.length_pos_iff.2 hq
   have hsub:sub? (from' [58] y) 1 ((from' [58] y).length:Int)=some ((from' [58] y).drop 1):=sub_drop (a:=1) hpos
   rw [hsub,Option.bind_some]
   generalize hp:(from' [58] y).drop 1=p
   have hpl:p.length+1=(from' [58] y).length:=by rw [← hp,List.length_drop]; omega
   generalize from' [58] y=q at hq hpl hy2 hpos
   generalize (upTo [58] y).map loB=h
   generalize upTo [58] y=y1
   by_cases h5:p.length≤5
   ·refine lim_eq (p.length+1) fun N hN=>?_
    refine (port_l2 p q y1 y h (t,true) (y,z) _ (by omega) h5 N 0 0 (by omega) (by omega) (by decide)).trans ?_
    rw [List.drop_zero,no_eq]
    cases hd:p.all dig with
    | false =>
     have e:portS t p=none:=by unfold portS; rw [hd,if_neg (by simp)]
     rw [e,if_neg (by simp)]
     rfl
    | true =>
     rw [if_pos rfl]
     by_cases hv:1≤valF 0 p∧valF 0 p≤65535
     ·rw [if_neg (by unfold Z1; simp; omega)]
      have hp1:1≤p.length:=by
       cases p with
       | nil=>exact absurd hv.1 (by decide)
       | cons a b=>simp
      have e:portS t p=some (if (valF 0 p:Int)=ownS t then 0 else (valF 0 p:Int)):=by
       unfold portS; rw [if_pos ⟨hp1,h5,hd,hv.1,hv.2⟩]
      rw [e,addr_j2 t h _ y z (by omega) true,addr_j2 t h _ y z (by omega) true]
      have own:((!((decide (t=[104,116,116,112]))&&(decide ((valF 0 p:Int)=80))))&&(!((decide (t=[104,116,116,112,115]))&&(decide ((valF 0 p:Int)=443)))))=!decide ((valF 0 p:Int)=ownS t):=by
       unfold ownS
       by_cases t1:t=[104,116,116,112]
       ·rw [if_pos t1,t1]; simp
       ·by_cases t2:t=[104,116,116,112,115]
        ·rw [if_neg t1,if_pos t2,t2]; simp
        ·rw [if_neg t1,if_neg t2]
         have:¬ valF 0 p=0:=by omega
         simp [t1,t2,this]
      rw [own]
      by_cases ho:(valF 0 p:Int)=ownS t
      ·rw [if_neg (by simp [ho]),if_pos ho]; rfl
      ·rw [if_pos (by simp [ho]),if_neg ho]; rfl
     ·have e:portS t p=none:=by unfold portS; rw [if_neg (by omega)]
      rw [e,if_pos (by unfold Z1; simp; omega)]
      rfl
   ·have e:portS t p=none:=by unfold portS; rw [if_neg (by omega)]
    rw [e]
    refine lim_eq 1 fun N hN=>?_
    obtain ⟨M,rfl⟩:∃ M,N=M+1:=⟨N - 1,by omega⟩
    rw [Z17,ints_length,if_pos (by simp only [decide_eq_true_eq]; omega)]
    have a1:at? (ints p) 0=some ((p[0]'(by omega)).toNat:Int):=by
     have:=at_nat (ints p) 0
     rw [ints_get,List.getElem?_eq_getElem (show 0<p.length by omega)] at this
     exact this
    rw [a1,Option.bind_some,if_pos (by simp only [Bool.or_eq_true,decide_eq_true_eq]; right; omega)]
    rfl
theorem addressed_eq (s:List UInt8):Zq s=some (addrS s):=by
 unfold Zq addrS
 by_cases h500:500<s.length
 ·rw [if_pos (by simp only [decide_eq_true_eq]; omega),if_pos h500]
 rw [if_neg (by simp only [decide_eq_true_eq]; omega),if_neg h500,schemeOf_eq s (by omega),Option.bind_some]
 have jt:∀ r,Z20 s r true=some (noU,3):=fun r=>by unfold Z20; rw [if_pos rfl]; rfl
 cases hk:sK true s with
 | none=>rw [if_pos (by rfl),jt]
 | some k =>
  obtain ⟨h1,h2,h3,h4,h5⟩:=sK_some s true k hk
  simp only
  have hlen:((s.take k).map loB).length=k:=by rw [List.length_map,List.length_take]; omega
  rw [if_neg (by simp),hlen,sub_drop (by omega),Option.bind_some]
  unfold Zj
  rw [hp_eq,Option.bind_some,Option.bind_some]
  have hd:s.drop k=58::s.drop (k+1):=by
   rw [List.drop_eq_getElem_cons h3]
   congr 1
   rw [List.getElem?_eq_getElem h3] at h4
   exact Option.some.inj h4
  have e:(s.drop k).take ([58,47,47]:List UInt8).length=[58,47,47]↔(s.drop (k+1)).take 2=[47,47]:=by
   rw [hd]
   show (58::s.drop (k+1)).take 3=_↔_
   rw [List.take_succ_cons]
   constructor
   ·intro h; exact (List.cons.inj h).2
   ·intro h; rw [h]
  by_cases h2:(s.drop (k+1)).take 2=[47,47]
  ·rw [if_pos h2,show decide ((s.drop k).take ([58,47,47]:List UInt8).length=[58,47,47])=true by simpa using e.2 h2]
   have hk3:k+3≤s.length:=by
    have:=take_le (s:=s.drop (k+1)) (p:=[47,47]) h2
    rw [List.length_drop,List.length_cons,List.length_cons,List.length_nil] at this
    omega
   rw [Bool.not_true,addr_j1 s k hk3 (by omega),List.drop_drop]
  ·rw [if_neg h2,show decide ((s.drop k).take ([58,47,47]:List UInt8).length=[58,47,47])=false by simpa using fun h=>h2 (e.1 h),Bool.not_false,jt]
structure AddrOK (u:TJUrl):Prop where
 sch:u.Scheme.length≤500
 host:u.Host.length≤500
 port:0≤u.Port∧u.Port≤65535
 path:1≤u.Path.length∧u.Path.length≤503
theorem tidy_len (l:List (List UInt8)):1≤(tidyS l).length∧(tidyS l).length≤l.length+1:=by
 have hf:=fold_len l []
 rw [List.length_nil] at hf
 have h2:(tgo [] l).length≤l.length+1:=by
  rw [tgo_fold]
  cases l.getLast? with
  | none=>simp
  | some x =>
   simp only
   split
   ·rw [List.length_append]; simp; omega
   ·omega
 unfold tidyS
 split
 ·simp
 ·rename_i hne
  exact ⟨List.length_pos_iff.2 hne,h2⟩
theorem port_ok {t p:List UInt8}{n:Int}(h:portS t p=some n):0≤n∧n≤65535:=by
 unfold portS at h
 split at h
 ·cases h
  split <;> omega
 ·cases h
theorem place_ok {t s h:List UInt8}{n:Int}(hp:placeS t s=some (h,n)):h.length≤s.length∧0≤n∧n≤65535:=by
 have hu:=upTo_le [58] s
 unfold placeS at hp
 split at hp
 ·split at hp
  ·cases hp
   rw [List.length_map]
   omega
  ·obtain ⟨m,h1,h2⟩:=Option.map_eq_some_iff.1 hp
   cases h2
   have:=port_ok h1
   rw [List.length_map]
   omega
 ·cases hp
theorem end_ok {t h s:List UInt8}{n:Int}(ht:t.length≤500) (hh:h.length≤500) (hn:0≤n∧n≤65535) (hs:s.length≤500):((endS t h n s).2=0∧AddrOK (endS t h n s).1)∨endS t h n s=(noU,3):=by
 have h1:=upTo_le [35] s
 have h2:=upTo_le [63] (upTo [35] s)
 unfold endS
 simp only
 have hp:(if (tailS ⟨t,h,n,[],[],false,[],false⟩ s).1.take 1=[47] then (tailS ⟨t,h,n,[],[],false,[],false⟩ s).1.drop 1 else (tailS ⟨t,h,n,[],[],false,[],false⟩ s).1).length≤500:=by
  have:(tailS ⟨t,h,n,[],[],false,[],false⟩ s).1.length≤500:=by show (upTo [63] (upTo [35] s)).length≤500; omega
  split
  ·rw [List.length_drop]; omega
  ·exact this
 generalize (if (tailS ⟨t,h,n,[],[],false,[],false⟩ s).1.take 1=[47] then (tailS ⟨t,h,n,[],[],false,[],false⟩ s).1.drop 1 else (tailS ⟨t,h,n,[],[],false,[],false⟩ s).1)=p at hp ⊢
 cases hsg:segS p with
 | none=>exact .inr rfl
 | some l =>
  simp only
  have hll:=seg_len hsg
  have htl:=tidy_len l
  split
  ·refine .inl ⟨rfl,ht,hh,hn,htl.1,?_⟩
   show (tidyS l).length≤503
   omega
  ·exact .inr rfl
theorem addr_ok (s:List UInt8):((addrS s).2=0∧AddrOK (addrS s).1)∨addrS s=(noU,3)∨addrS s=(noU,2):=by
 unfold addrS
 split
 ·exact .inr (.inr rfl)
 ·split
  ·exact .inr (.inl rfl)
  ·rename_i k hk
   simp only
   have hr:(s.drop (k+1)).length≤500:=by rw [List.length_drop]; omega
   have ht:((s.take k).map loB).length≤500:=by rw [List.length_map,List.length_take]; omega
   generalize s.drop (k+1)=r at hr ⊢
   generalize (s.take k).map loB=t at ht ⊢
   split
   ·have h1:=upTo_le [47,63,35] (r.drop 2)
    have h2:=from_le [47,63,35] (r.drop 2)
    rw [List.length_drop] at h1 h2
    cases hp:placeS t (upTo [47,63,35] (r.drop 2)) with
    | none=>exact .inr (.inl rfl)
    | some hn =>
     obtain ⟨h,n⟩:=hn
     have hpk:=place_ok hp
     simp only
     rcases end_ok ht (show h.length≤500 by omega) hpk.2 (show (from' [47,63,35] (r.drop 2)).length≤500 by omega) with h | h
     ·exact .inl h
     ·exact .inr (.inl h)
   ·exact .inr (.inl rfl)
/-! ### origins -/
def origS (u:TJUrl):List UInt8:=u.Scheme ++ [58,47,47] ++ u.Host ++ (if u.Port=0 then [] else 58::Lib.itoa u.Port)
theorem orig_eq (u:TJUrl) (h1:u.Scheme.length≤10000000) (h2:u.Host.length≤10000000) (h3 : -9223372036854775808≤u.Port∧u.Port≤9223372036854775807):Zc u=some (origS u):=by
 have hi:=Lib.itoa_length_le u.Port h3.1 h3.2
 unfold Zc origS
 rw [catq (by simp; omega),Option.bind_some,catq (by simp; omega),Option.bind_some]
 unfold Z53
 by_cases hp:u.Port=0
 ·rw [if_neg (by simp [hp]),if_pos hp,List.append_nil]
 ·rw [if_pos (by simpa using hp),if_neg hp]
  show (itoa? u.Port).bind _=_
  unfold itoa?
  rw [if_pos h3,Option.bind_some,catq (by simp; omega),Option.bind_some,catq (by simp; omega),Option.bind_some]
  rfl
theorem url_orig (u:TJUrl):Z48 u=Zc u:=rfl
end Go.Proofs.YtngonchkhmjenaaGreatDoorBv
/- The text of an address. No program is in sight. -/
namespace Go.Proofs.YtngonchkhmjenaaGreatDoorBv
open Go
set_option linter.unusedSimpArgs false
set_option linter.unusedVariables false
noncomputable def pathT (l:List (List UInt8)):List UInt8:=l.flatMap fun p=>47::encL p
theorem pathT_take {l:List (List UInt8)}{i:Nat}(h:i<l.length):pathT (l.take (i+1))=pathT (l.take i) ++ 47::encL l[i]:=by
 have tk:l.take (i+1)=l.take i ++ [l[i]]:=by rw [List.take_add_one,List.getElem?_eq_getElem h]; rfl
 unfold pathT
 rw [tk,List.flatMap_append]
 simp
theorem pathT_mono (l:List (List UInt8)) (i:Nat):(pathT (l.take i)).length≤(pathT l).length:=by
 conv=>rhs; rw [← List.take_append_drop i l]
 unfold pathT
 rw [List.flatMap_append,List.length_append]
 omega
noncomputable def textS (u:TJUrl):List UInt8:=origS u ++ pathT u.Path ++ (if u.Asks then 63::u.Query else []) ++ (if u.Points then 35::u.Fragment else [])
structure Short (u:TJUrl):Prop where
 sum:u.Scheme.length+u.Host.length+(pathT u.Path).length+u.Query.length+u.Fragment.length≤9000000
 path:u.Path.length≤9000000∧∀ p,p ∈ u.Path→p.length≤9000000
 port : -9223372036854775808≤u.Port∧u.Port≤9223372036854775807
theorem orig_len (u:TJUrl) (h : -9223372036854775808≤u.Port∧u.Port≤9223372036854775807):(origS u).length≤u.Scheme.length+u.Host.length+30:=by
 have hi:=Lib.itoa_length_le u.Port h.1 h.2
 unfold origS
 split
 ·simp; omega
 ·simp; omega
theorem text_l0 (u:TJUrl) (h:Short u) (K:List UInt8→Option (List UInt8)):∀(N i:Nat),u.Path.length - i<N→i≤u.Path.length →
  Z1a u K N (origS u ++ pathT (u.Path.take i)) (i:Int)=K (origS u ++ pathT u.Path)
 | 0,i,hN,hi=>by omega
 | N+1,i,hN,hi=>by
  have ho:=orig_len u h.port
  have hp:=h.path
  have hs:=h.sum
  rw [Z1a]
  by_cases hlt:i<u.Path.length
  ·have hx:=hp.2 u.Path[i] (List.getElem_mem hlt)
   have hm:=pathT_mono u.Path (i+1)
   have ht:=pathT_take hlt
   have hm' := congrArg List.length ht
   rw [List.length_append,List.length_cons] at hm'
   rw [if_pos (by simp only [decide_eq_true_eq]; omega),at_some hlt,Option.bind_some,encode_eq _ (by omega),Option.bind_some,catq (by simp; omega),Option.bind_some]
   show (bWriteString? _ ([47] ++ encL u.Path[i])).bind _=_
   unfold bWriteString?
   rw [if_pos (by simp; omega),Option.bind_some,wi_id (by omega) (by omega),show (i:Int)+1=((i+1:Nat):Int) by omega]
   have e:origS u ++ pathT (u.Path.take i) ++ ([47] ++ encL u.Path[i])=origS u ++ pathT (u.Path.take (i+1)):=by rw [ht,List.append_assoc]; rfl
   rw [e]
   exact text_l0 u h K N (i+1) (by omega) (by omega)
  ·obtain rfl:i=u.Path.length:=by omega
   rw [if_neg (by simp),List.take_length]
theorem text_eq (u:TJUrl) (h:Short u):Z36 u=some (textS u):=by
 have ho:=orig_len u h.port
 have hs:=h.sum
 unfold Z36
 rw [url_orig,orig_eq u (by omega) (by omega) h.port,Option.bind_some]
 show (bWriteString? [] (origS u)).bind _=_
 unfold bWriteString?
 rw [if_pos (by simp; omega),Option.bind_some,List.nil_append]
 refine lim_eq (u.Path.length+1) fun k hk=>?_
 have:=text_l0 u h (fun (out1:(List UInt8)) => 
   if u.Asks then
    (cat? [63] u.Query).bind fun r_7 =>
    (Zi out1 r_7).bind fun r_8 =>
    Z1r u r_8
   else
    Z1r u out1) k 0 (by omega) (by omega)
 rw [show pathT (u.Path.take 0)=[] from rfl,List.append_nil] at this
 refine this.trans ?_
 have j1:∀ o:List UInt8,o.length≤9100000→Z1r u o=some (o ++ (if u.Points then 35::u.Fragment else [])):=by
  intro o hol
  unfold Z1r Z4b
  cases u.Points with
  | true =>
   rw [if_pos rfl,if_pos rfl,catq (by simp; omega),Option.bind_some]
   show (bWriteString? o ([35] ++ u.Fragment)).bind _=_
   unfold bWriteString?
   rw [if_pos (by simp; omega),Option.bind_some]
   rfl
  | false=>rw [if_neg (by simp),if_neg (by simp),List.append_nil]
 unfold textS
 cases ha:u.Asks with
 | true =>
  rw [if_pos rfl,if_pos rfl,catq (by simp; omega),Option.bind_some]
  show (bWriteString? (origS u ++ pathT u.Path) ([63] ++ u.Query)).bind _=_
  unfold bWriteString?
  rw [if_pos (by simp; omega),Option.bind_some,j1 _ (by simp; omega)]
  rfl
 | false =>
  rw [if_neg (by simp),if_neg (by simp),j1 _ (by simp; omega),List.append_nil]
theorem addrT_l0 (u:TJUrl) (h:Short u) (K:List UInt8→Option (List UInt8)):∀(N i:Nat),u.Path.length - i<N→i≤u.Path.length →
  Z1i u K N (origS u ++ pathT (u.Path.take i)) (i:Int)=K (origS u ++ pathT u.Path)
 | 0,i,hN,hi=>by omega
 | N+1,i,hN,hi=>by
  have ho:=orig_len u h.port
  have hp:=h.path
  have hs:=h.sum
  rw [Z1i]
  by_cases hlt:i<u.Path.length
  ·have hx:=hp.2 u.Path[i] (List.getElem_mem hlt)
   have hm:=pathT_mono u.Path (i+1)
   have ht:=pathT_take hlt
   have hm' := congrArg List.length ht
   rw [List.length_append,List.length_cons] at hm'
   rw [if_pos (by simp only [decide_eq_true_eq]; omega),at_some hlt,Option.bind_some,encoded_eq _ (by omega),Option.bind_some,catq (by simp; omega),Option.bind_some,catq (by simp; omega),Option.bind_some,wi_id (by omega) (by omega),show (i:Int)+1=((i+1:Nat):Int) by omega]
   have e:origS u ++ pathT (u.Path.take i) ++ ([47] ++ encL u.Path[i])=origS u ++ pathT (u.Path.take (i+1)):=by rw [ht,List.append_assoc]; rfl
   rw [e]
   exact addrT_l0 u h K N (i+1) (by omega) (by omega)
  ·obtain rfl:i=u.Path.length:=by omega
   rw [if_neg (by simp),List.take_length]
theorem addrT_eq (u:TJUrl) (h:Short u):Z3n u=some (textS u):=by
 have ho:=orig_len u h.port
 have hs:=h.sum
 unfold Z3n
 rw [orig_eq u (by omega) (by omega) h.port,Option.bind_some]
 refine lim_eq (u.Path.length+1) fun k hk=>?_
 have:=addrT_l0 u h (fun (out1:(List UInt8)) => 
   if u.Asks then
    (cat? [63] u.Query).bind fun r_6 =>
    (cat? out1 r_6).bind fun r_7 =>
    Z21 u r_7
   else
    Z21 u out1) k 0 (by omega) (by omega)
 rw [show pathT (u.Path.take 0)=[] from rfl,List.append_nil] at this
 refine this.trans ?_
 have j1:∀ o:List UInt8,o.length≤9100000→Z21 u o=some (o ++ (if u.Points then 35::u.Fragment else [])):=by
  intro o hol
  unfold Z21 Z55
  cases u.Points with
  | true =>
   rw [if_pos rfl,if_pos rfl,catq (by simp; omega),Option.bind_some,catq (by simp; omega),Option.bind_some]
   rfl
  | false=>rw [if_neg (by simp),if_neg (by simp),List.append_nil]
 unfold textS
 cases ha:u.Asks with
 | true =>
  rw [if_pos rfl,if_pos rfl,catq (by simp; omega),Option.bind_some,catq (by simp; omega),Option.bind_some,j1 _ (by simp; omega)]
  rfl
 | false =>
  rw [if_neg (by simp),if_neg (by simp),j1 _ (by simp; omega),List.append_nil]
end Go.Proofs.YtngonchkhmjenaaGreatDoorBv
/- Addresses that were read are not too long to be told. No program is in sight. -/
namespace Go.Proofs.YtngonchkhmjenaaGreatDoorBv
open Go
set_option linter.unusedSimpArgs false
set_option linter.unusedVariables false
structure Med (u:TJUrl):Prop where
 sch:u.Scheme.length≤1100
 host:u.Host.length≤1100
 port:0≤u.Port∧u.Port≤65535
 path:u.Path.length≤2000
 elem:∀ p,p ∈ u.Path→p.length≤1100
 query:u.Query.length≤4000
 frag:u.Fragment.length≤4000
theorem pathT_bound (l:List (List UInt8)) (M:Nat) (h:∀ p,p ∈ l→p.length≤M):(pathT l).length≤l.length * (3 * M+1):=by
 induction l with
 | nil=>simp [pathT]
 | cons p r ih =>
  have h1:=ih fun q hq=>h q (List.mem_cons_of_mem _ hq)
  have h2:=encL_len p
  have h3:=h p (List.mem_cons_self ..)
  unfold pathT at h1 ⊢
  rw [List.flatMap_cons,List.length_append,List.length_cons,List.length_cons,Nat.add_mul,Nat.one_mul]
  omega
theorem Med.short {u:TJUrl}(h:Med u):Short u:=by
 have h1:=pathT_bound u.Path 1100 h.elem
 have h2:u.Path.length * (3 * 1100+1)≤2000 * (3 * 1100+1):=Nat.mul_le_mul_right _ h.path
 have:=h.sch; have:=h.host; have:=h.port; have:=h.query; have:=h.frag; have:=h.path
 exact ⟨by omega,⟨by omega,fun p hp=>by have:=h.elem p hp; omega⟩,by omega⟩
theorem noU_med:Med noU:=⟨by simp,by simp,by simp,by simp,fun p hp=>(by cases hp),by simp,by simp⟩
theorem clean_len (s:List UInt8):(cleanS s).1.length≤3 * s.length:=by
 unfold cleanS
 cases h:decU s with
 | none=>simp
 | some l =>
  have h1:=decU_len s.length s l (Nat.le_refl _) h
  have h2:=flat_len l
  simp only
  omega
theorem decOr_len (p:List UInt8):(decOr p).length≤p.length:=by
 unfold decOr dec1
 cases h:decU p with
 | none=>simp
 | some l =>
  have h1:=decU_len p.length p l (Nat.le_refl _) h
  simp only [Option.map_some,Option.getD_some,byts_length,List.length_map]
  exact h1
theorem seg_elem {s:List UInt8}{l:List (List UInt8)}(h:segS s=some l):∀ p,p ∈ l→p.length≤s.length:=by
 intro p hp
 rw [segL_some _ _ h] at hp
 obtain ⟨q,hq,rfl⟩:=List.mem_map.1 hp
 have h1:=decOr_len q
 have h2:=(cutB_mem hq).2
 omega
theorem tstep_mem {out:List (List UInt8)}{x:List UInt8}{M:Nat}(ho:∀ p,p ∈ out→p.length≤M) (hx:x.length≤M):∀ p,p ∈ tstep out x→p.length≤M:=by
 intro p hp
 unfold tstep at hp
 split at hp
 ·split at hp
  ·exact ho p (List.mem_of_mem_take hp)
  ·exact ho p hp
 ·rcases List.mem_append.1 hp with h | h
  ·exact ho p h
  ·rw [List.mem_singleton] at h; subst h; exact hx
theorem fold_mem {M:Nat}:∀(l out:List (List UInt8)),(∀ p,p ∈ out→p.length≤M)→(∀ p,p ∈ l→p.length≤M)→∀ p,p ∈ l.foldl tstep out→p.length≤M
 | [],out,ho,_=>ho
 | x::r,out,ho,hl=>by
  rw [List.foldl_cons]
  exact fold_mem r (tstep out x) (tstep_mem ho (hl x (List.mem_cons_self ..))) fun p hp=>hl p (List.mem_cons_of_mem _ hp)
theorem tidy_elem {l:List (List UInt8)}{M:Nat}(hl:∀ p,p ∈ l→p.length≤M):∀ p,p ∈ tidyS l→p.length≤M:=by
 have hf:=fold_mem l [] (fun p hp=>(by cases hp)) hl
 have hg:∀ p,p ∈ tgo [] l→p.length≤M:=by
  intro p hp
  rw [tgo_fold] at hp
  cases hx:l.getLast? with
  | none=>rw [hx] at hp; cases hp
  | some x =>
   rw [hx] at hp
   simp only at hp
   split at hp
   ·rcases List.mem_append.1 hp with h | h
    ·exact hf p h
    ·rw [List.mem_singleton] at h; subst h; simp
   ·exact hf p hp
 intro p hp
 unfold tidyS at hp
 split at hp
 ·rw [List.mem_singleton] at hp; subst hp; simp
 ·exact hg p hp
theorem end_med {t h s:List UInt8}{n:Int}(ht:t.length≤1100) (hh:h.length≤1100) (hn:0≤n∧n≤65535) (hs:s.length≤1100):Med (endS t h n s).1:=by
 have h1:=upTo_le [35] s
 have h2:=upTo_le [63] (upTo [35] s)
 have h3:=from_le [35] s
 have h4:=from_le [63] (upTo [35] s)
 unfold endS
 simp only
 have hp:(if (tailS ⟨t,h,n,[],[],false,[],false⟩ s).1.take 1=[47] then (tailS ⟨t,h,n,[],[],false,[],false⟩ s).1.drop 1 else (tailS ⟨t,h,n,[],[],false,[],false⟩ s).1).length≤1100:=by
  have:(tailS ⟨t,h,n,[],[],false,[],false⟩ s).1.length≤1100:=by show (upTo [63] (upTo [35] s)).length≤1100; omega
  split
  ·rw [List.length_drop]; omega
  ·exact this
 generalize (if (tailS ⟨t,h,n,[],[],false,[],false⟩ s).1.take 1=[47] then (tailS ⟨t,h,n,[],[],false,[],false⟩ s).1.drop 1 else (tailS ⟨t,h,n,[],[],false,[],false⟩ s).1)=p at hp ⊢
 cases hsg:segS p with
 | none=>exact noU_med
 | some l =>
  simp only
  have hll:=seg_len hsg
  have htl:=tidy_len l
  have hel:=tidy_elem (M:=1100) fun q hq=>by have:=seg_elem hsg q hq; omega
  split
  ·refine ⟨ht,hh,hn,by show (tidyS l).length≤2000; omega,hel,?_,?_⟩
   ·have:=clean_len ((from' [63] (upTo [35] s)).drop 1)
    rw [List.length_drop] at this
    show (cleanS ((from' [63] (upTo [35] s)).drop 1)).1.length≤4000
    omega
   ·have:=clean_len ((from' [35] s).drop 1)
    rw [List.length_drop] at this
    show (cleanS ((from' [35] s).drop 1)).1.length≤4000
    omega
  ·exact noU_med
theorem addr_med (s:List UInt8):Med (addrS s).1:=by
 unfold addrS
 split
 ·exact noU_med
 ·split
  ·exact noU_med
  ·rename_i k hk
   simp only
   have hr:(s.drop (k+1)).length≤500:=by rw [List.length_drop]; omega
   have ht:((s.take k).map loB).length≤500:=by rw [List.length_map,List.length_take]; omega
   generalize s.drop (k+1)=r at hr ⊢
   generalize (s.take k).map loB=t at ht ⊢
   split
   ·have h1:=upTo_le [47,63,35] (r.drop 2)
    have h2:=from_le [47,63,35] (r.drop 2)
    rw [List.length_drop] at h1 h2
    cases hp:placeS t (upTo [47,63,35] (r.drop 2)) with
    | none=>exact noU_med
    | some hn =>
     obtain ⟨h,n⟩:=hn
     have hpk:=place_ok hp
     exact end_med (by omega) (by omega) hpk.2 (by omega)
   ·exact noU_med
end Go.Proofs.YtngonchkhmjenaaGreatDoorBv
/- A text beside an address: the program's and the document's answers are one. No program is in sight. -/
namespace Go.Proofs.YtngonchkhmjenaaGreatDoorBv
open Go
set_option linter.unusedSimpArgs false
set_option linter.unusedVariables false
noncomputable def resF (x:TJUrl×Int):List UInt8×Int:=if x.2=0 then (if 500<(textS x.1).length then ([],2) else (textS x.1,0)) else ([],x.2)
theorem j1_eq (u:TJUrl) (e:Int) (h:Short u):Z1b e u.Scheme u.Host u.Port u.Path u.Query u.Asks u.Fragment u.Points=some (resF (u,e)):=by
 unfold Z1b resF
 by_cases he:e=0
 ·rw [if_neg (by simp [he]),if_pos he]
  show (Z36 u).bind _=_
  rw [text_eq u h,Option.bind_some]
  by_cases h5:500<(textS u).length
  ·rw [if_pos (by simp only [decide_eq_true_eq]; omega),if_pos h5]
  ·rw [if_neg (by simp only [decide_eq_true_eq]; omega),if_neg h5]
 ·rw [if_pos (by simpa using he),if_neg he]
theorem j10_eq (u:TJUrl) (e:Int) (h:Short u):Z18 e u.Scheme u.Host u.Port u.Path u.Query u.Asks u.Fragment u.Points=some (resF (u,e)):=by
 unfold Z18 resF
 by_cases he:e=0
 ·rw [if_neg (by simp [he]),if_pos he]
  show (Z3n u).bind _=_
  rw [addrT_eq u h,Option.bind_some]
  by_cases h5:500<(textS u).length
  ·rw [if_pos (by simp only [decide_eq_true_eq]; omega),if_pos h5]
  ·rw [if_neg (by simp only [decide_eq_true_eq]; omega),if_neg h5]
 ·rw [if_pos (by simpa using he),if_neg he]
noncomputable def besS (b:TJUrl) (ref:List UInt8):TJUrl×Int :=
 let r:=tailS b ref
 match segS (if r.1.take 1=[47] then r.1.drop 1 else r.1) with
 | none=>(noU,3)
 | some l=>if r.2.1 then
   (if r.1=[] then (⟨b.Scheme,b.Host,b.Port,b.Path,if r.2.2.Asks then r.2.2.Query else b.Query,if r.2.2.Asks then true else b.Asks,r.2.2.Fragment,r.2.2.Points⟩,0)
   else (⟨b.Scheme,b.Host,b.Port,tidyS (if r.1.take 1=[47] then l else b.Path.take (b.Path.length - 1) ++ l),r.2.2.Query,r.2.2.Asks,r.2.2.Fragment,r.2.2.Points⟩,0))
  else (noU,3)
theorem tail_path_le (b:TJUrl) (s:List UInt8):(tailS b s).1.length≤s.length:=by
 have h1:=upTo_le [35] s
 have h2:=upTo_le [63] (upTo [35] s)
 show (upTo [63] (upTo [35] s)).length≤s.length
 omega
theorem seg_le (x:List UInt8):(if x.take 1=[47] then x.drop 1 else x).length≤x.length:=by
 split
 ·rw [List.length_drop]; omega
 ·exact Nat.le_refl _
theorem bes_med {b:TJUrl}{ref:List UInt8}(hb:Med b) (hp:AddrOK b) (hr:ref.length≤500):Med (besS b ref).1:=by
 have h0:=tail_path_le b ref
 have h3:=from_le [35] ref
 have h4:=from_le [63] (upTo [35] ref)
 have h5:=upTo_le [35] ref
 have hc:=seg_le (tailS b ref).1
 have hq:(tailS b ref).2.2.Query.length≤4000:=by
  have:=clean_len ((from' [63] (upTo [35] ref)).drop 1)
  rw [List.length_drop] at this
  show (cleanS ((from' [63] (upTo [35] ref)).drop 1)).1.length≤4000
  omega
 have hf:(tailS b ref).2.2.Fragment.length≤4000:=by
  have:=clean_len ((from' [35] ref).drop 1)
  rw [List.length_drop] at this
  show (cleanS ((from' [35] ref).drop 1)).1.length≤4000
  omega
 unfold besS
 simp only
 generalize tailS b ref=r at hc hq hf h0 ⊢
 cases hs:segS (if r.1.take 1=[47] then r.1.drop 1 else r.1) with
 | none=>exact noU_med
 | some l =>
  have hl:=seg_len hs
  have he:=seg_elem hs
  simp only
  split
  ·split
   ·refine ⟨hb.sch,hb.host,hb.port,hb.path,hb.elem,?_,hf⟩
    show (if r.2.2.Asks then r.2.2.Query else b.Query).length≤4000
    split
    ·exact hq
    ·exact hb.query
   ·have hpl:=hp.path
    have htl:=tidy_len (if r.1.take 1=[47] then l else b.Path.take (b.Path.length - 1) ++ l)
    refine ⟨hb.sch,hb.host,hb.port,?_,?_,hq,hf⟩
    ·show (tidyS (if r.1.take 1=[47] then l else b.Path.take (b.Path.length - 1) ++ l)).length≤2000
     have:(if r.1.take 1=[47] then l else b.Path.take (b.Path.length - 1) ++ l).length≤1500:=by
      split
      ·omega
      ·rw [List.length_append,List.length_take]; omega
     omega
    ·refine tidy_elem (M:=1100) fun q hq=>?_
     split at hq
     ·have:=he q hq; omega
     ·rcases List.mem_append.1 hq with h | h
      ·exact hb.elem q (List.mem_of_mem_take h)
      ·have:=he q h; omega
  ·exact noU_med
theorem concat2 (a b:List (List UInt8)) (ha:a.length≤1000000) (hb:b.length≤1000000):Z44 [a,b]=some (a ++ b):=by
 unfold Z44
 refine lim_eq 3 fun k hk=>?_
 obtain ⟨m,rfl⟩:∃ m,k=m+3:=⟨k - 3,by omega⟩
 have a0:at? [a,b] 0=some a:=rfl
 have a1:at? [a,b] 1=some b:=rfl
 rw [Zx,if_pos (by simp),a0,Option.bind_some,wi_id (n:=0+(a.length:Int)) (by omega) (by omega),if_neg (by simp only [decide_eq_true_eq]; omega),show wi (0+1)=1 from rfl]
 rw [Zx,if_pos (by simp),a1,Option.bind_some,wi_id (n:=0+(a.length:Int)+(b.length:Int)) (by omega) (by omega),if_neg (by simp; omega),show wi (1+1)=2 from rfl]
 rw [Zx,if_neg (by simp)]
 show (grow? (List UInt8) 16 _).bind _=_
 rw [grow_some (by omega) (by omega) (by omega),Option.bind_some]
 refine lim_eq 3 fun k hk=>?_
 obtain ⟨m,rfl⟩:∃ m,k=m+3:=⟨k - 3,by omega⟩
 rw [Zy,if_pos (by simp),a0,Option.bind_some,appq (by rw [List.length_nil]; omega),Option.bind_some,List.nil_append,show wi (0+1)=1 from rfl]
 rw [Zy,if_pos (by simp),a1,Option.bind_some,appq (by omega),Option.bind_some,show wi (1+1)=2 from rfl]
 rw [Zy,if_neg (by simp)]
theorem beside_eq (b:TJUrl) (ref:List UInt8) (hb:AddrOK b) (hr:ref.length≤500):Z47 b ref=some (besS b ref):=by
 have h0:=tail_path_le ⟨b.Scheme,b.Host,b.Port,[],[],false,[],false⟩ ref
 have hc:=seg_le (tailS b ref).1
 unfold Z47 besS
 rw [tail_eq _ ref (by omega),Option.bind_some,cutPre_eq,Option.bind_some]
 have t1:(tailS ⟨b.Scheme,b.Host,b.Port,[],[],false,[],false⟩ ref).1=(tailS b ref).1:=rfl
 have t2:(tailS ⟨b.Scheme,b.Host,b.Port,[],[],false,[],false⟩ ref).2.1=(tailS b ref).2.1:=rfl
 have t3:(tailS ⟨b.Scheme,b.Host,b.Port,[],[],false,[],false⟩ ref).2.2=⟨b.Scheme,b.Host,b.Port,[],(tailS b ref).2.2.Query,(tailS b ref).2.2.Asks,(tailS b ref).2.2.Fragment,(tailS b ref).2.2.Points⟩:=rfl
 rw [t1] at h0
 unfold Z45 Z46
 simp only [t1,t2,t3,List.length_cons,List.length_nil,Nat.zero_add]
 generalize tailS b ref=r at hc h0 ⊢
 have e1:(if r.1.take 1=[47] then (r.1.drop 1,true) else (r.1,false))=((if r.1.take 1=[47] then r.1.drop 1 else r.1),decide (r.1.take 1=[47])):=by
  by_cases h:r.1.take 1=[47]
  ·rw [if_pos h,if_pos h]; simp [h]
  ·rw [if_neg h,if_neg h]; simp [h]
 rw [e1]
 simp only
 rw [segments_eq _ (by omega),Option.bind_some]
 cases hs:segS (if r.1.take 1=[47] then r.1.drop 1 else r.1) with
 | none=>simp
 | some l =>
  have hl:=seg_len hs
  have hpl:=hb.path
  simp only
  cases r.2.1 with
  | false=>simp
  | true =>
   rw [if_neg (by simp),if_pos rfl]
   by_cases hn:r.1=[]
   ·rw [if_pos (by simpa using hn),if_pos hn]
    cases r.2.2.Asks <;> simp
   ·rw [if_neg (by simpa using hn),if_neg hn]
    have hsub:sub? b.Path 0 (wi ((b.Path.length:Int) - 1))=some (b.Path.take (b.Path.length - 1)):=by
     rw [wi_id (by omega) (by omega),show (b.Path.length:Int) - 1=((b.Path.length - 1:Nat):Int) by omega,sub_take (by omega)]
    by_cases h1:r.1.take 1=[47]
    ·rw [if_neg (by simp [h1]),if_pos h1,tidy_eq l (by omega),Option.bind_some]
    ·rw [if_pos (by simp [h1]),if_neg h1,hsub,Option.bind_some,concat2 _ _ (by rw [List.length_take]; omega) (by omega),Option.bind_some,tidy_eq _ (by rw [List.length_append,List.length_take]; omega),Option.bind_some]
theorem hasP1 (x:List UInt8):Zj x [47]=some (decide (x.take 1=[47])):=by
 unfold Zj
 rw [hp_eq]
 rfl
theorem tail_same (u:TJUrl) (s:List UInt8):Z50 u s=Z3j u s:=rfl
theorem resolved_bes (b:TJUrl) (ref:List UInt8) (hb:Med b) (hp:AddrOK b) (hr:ref.length≤500) :
  ((Z50 b ref).bind fun r_8 =>
     if ((decide (r_8.1=[]))&&(!r_8.2.2.Asks)) then
      Z22 r_8 (b,0) b.Query b.Asks
     else
      Z22 r_8 (b,0) r_8.2.2.Query r_8.2.2.Asks)=some (resF (besS b ref)):=by
 have hm:=bes_med hb hp hr
 have h0:=tail_path_le b ref
 have hc:=seg_le (tailS b ref).1
 rw [tail_same,tailOf_eq b ref (by omega),Option.bind_some]
 have t3:(tailS b ref).2.2=⟨b.Scheme,b.Host,b.Port,b.Path,(tailS b ref).2.2.Query,(tailS b ref).2.2.Asks,(tailS b ref).2.2.Fragment,(tailS b ref).2.2.Points⟩:=rfl
 unfold besS at hm ⊢
 simp only at hm ⊢
 have t4:(tailS b ref).2.2.Scheme=b.Scheme∧(tailS b ref).2.2.Host=b.Host∧(tailS b ref).2.2.Port=b.Port∧(tailS b ref).2.2.Path=b.Path:=⟨rfl,rfl,rfl,rfl⟩
 clear t3
 generalize tailS b ref=r at hc h0 hm t4 ⊢
 obtain ⟨q1,q2,q3,q4⟩:=t4
 have j11:∀(u4:List UInt8) (u5:Bool),Z22 r (b,0) u4 u5=match segS (if r.1.take 1=[47] then r.1.drop 1 else r.1) with
   | none=>some ([],3)
   | some l=>if r.2.1 then
     (if r.1=[] then Z18 0 b.Scheme b.Host b.Port b.Path u4 u5 r.2.2.Fragment r.2.2.Points
     else Z18 0 b.Scheme b.Host b.Port (tidyS (if r.1.take 1=[47] then l else b.Path.take (b.Path.length - 1) ++ l)) u4 u5 r.2.2.Fragment r.2.2.Points) else some ([],3):=by
  intro u4 u5
  unfold Z22
  rw [trim_take,Option.bind_some,segOf_eq _ (by omega),Option.bind_some]
  cases hs:segS (if r.1.take 1=[47] then r.1.drop 1 else r.1) with
  | none=>simp
  | some l =>
   have hl:=seg_len hs
   have hml:=segL_some _ _ hs
   have hpl:=hp.path
   simp only
   rw [← hml]
   cases r.2.1 with
   | false=>simp
   | true =>
    rw [if_neg (by simp),if_pos rfl]
    unfold Z57 Z56
    simp only [q1,q2,q3,q4]
    by_cases hn:r.1=[]
    ·rw [if_neg (by simp [hn]),if_pos hn,if_neg (by simp),if_neg (by simp [hn])]
    ·rw [if_pos (by simpa using hn),if_neg hn,hasP1,Option.bind_some]
     have hsub:sub? b.Path 0 (wi ((b.Path.length:Int) - 1))=some (b.Path.take (b.Path.length - 1)):=by
      rw [wi_id (by omega) (by omega),show (b.Path.length:Int) - 1=((b.Path.length - 1:Nat):Int) by omega,sub_take (by omega)]
     by_cases h1:r.1.take 1=[47]
     ·rw [if_neg (by simp [h1]),if_pos h1,if_pos (by simpa using hn),tidied_eq l (by omega),Option.bind_some]
     ·rw [if_pos (by simp [h1]),if_neg h1,hsub,Option.bind_some,appq (by simp; omega),Option.bind_some,List.nil_append,appq (by rw [List.length_take]; omega),Option.bind_some,if_pos (by simpa using hn),tidied_eq _ (by rw [List.length_append,List.length_take]; omega),Option.bind_some]
 rw [j11,j11]
 cases hs:segS (if r.1.take 1=[47] then r.1.drop 1 else r.1) with
 | none =>
  simp only
  split <;> rfl
 | some l =>
  rw [hs] at hm
  simp only at hm ⊢
  cases hr1:r.2.1 with
  | false =>
   simp only [Bool.false_eq_true,if_false]
   split <;> rfl
  | true =>
   rw [hr1,if_pos rfl] at hm
   simp only [if_true]
   by_cases hn:r.1=[]
   ·rw [if_pos hn] at hm
    simp only [hn,if_true,decide_true,Bool.true_and]
    have:=j10_eq _ 0 hm.short
    simp only at this
    rw [← this]
    cases r.2.2.Asks <;> simp
   ·rw [if_neg hn] at hm
    simp only [hn,if_false,decide_false,Bool.false_and,Bool.false_eq_true]
    exact j10_eq _ 0 hm.short
theorem resolve_both (base ref:List UInt8):∃ x,Zl base ref=some x∧Z23 base ref=some x:=by
 unfold Zl Z23
 rw [parse_eq,addressed_eq,Option.bind_some,Option.bind_some]
 have hm:=addr_med base
 rcases addr_ok base with ⟨h0,hA⟩ | h | h
 ·have z:¬ ((!decide ((0:Int)=0))=true):=by simp
  rw [h0,if_neg z,if_neg z]
  obtain ⟨b,hb⟩:∃ b,(addrS base).1=b:=⟨_,rfl⟩
  have hpair:addrS base=(b,0):=by rw [← hb,← h0]
  rw [hpair] at hm hA ⊢
  simp only at hm hA ⊢
  by_cases h5:500<ref.length
  ·rw [if_pos (by simp only [decide_eq_true_eq]; omega),if_pos (by simp only [decide_eq_true_eq]; omega)]
   exact ⟨_,rfl,rfl⟩
  ·rw [if_neg (by simp only [decide_eq_true_eq]; omega),if_neg (by simp only [decide_eq_true_eq]; omega),scheme_eq ref (by omega),Option.bind_some,schemeOf_eq ref (by omega),Option.bind_some]
   unfold schemeS
   cases hk:sK true ref with
   | some k =>
    simp only [if_true]
    rw [parse_eq,addressed_eq,Option.bind_some,Option.bind_some]
    have hm2:=(addr_med ref).short
    exact ⟨_,j1_eq _ _ hm2,j10_eq _ _ hm2⟩
   | none =>
    simp only [Bool.false_eq_true,if_false]
    have hpf:Zj ref [47,47]=some (decide (ref.take 2=[47,47])):=by unfold Zj; rw [hp_eq]; rfl
    rw [hpf,Option.bind_some,Option.bind_some]
    by_cases h2:ref.take 2=[47,47]
    ·have hs:=hA.sch
     rw [if_pos (by simpa using h2),if_pos (by simpa using h2),catq (by simp; omega),Option.bind_some,Option.bind_some,catq (by simp; omega),Option.bind_some,Option.bind_some,parse_eq,addressed_eq,Option.bind_some,Option.bind_some]
     have hm2:=(addr_med (b.Scheme ++ [58] ++ ref)).short
     exact ⟨_,j1_eq _ _ hm2,j10_eq _ _ hm2⟩
    ·rw [if_neg (by simpa using h2),if_neg (by simpa using h2),beside_eq b ref hA (by omega),Option.bind_some,resolved_bes b ref hm hA (by omega)]
     have hm2:=(bes_med hm hA (show ref.length≤500 by omega)).short
     exact ⟨_,j1_eq _ _ hm2,rfl⟩
 ·rw [h,if_pos (by simp),if_pos (by simp)]
  exact ⟨_,rfl,rfl⟩
 ·rw [h,if_pos (by simp),if_pos (by simp)]
  exact ⟨_,rfl,rfl⟩
noncomputable def resS (base ref:List UInt8):List UInt8×Int:=(Zl base ref).getD ([],0)
theorem resolve_eq (base ref:List UInt8):Zl base ref=some (resS base ref)∧Z23 base ref=some (resS base ref):=by
 obtain ⟨x,h1,h2⟩:=resolve_both base ref
 unfold resS
 rw [h1]
 exact ⟨rfl,h2⟩
end Go.Proofs.YtngonchkhmjenaaGreatDoorBv
/- Entries of one document stand together, and have one origin: by what was seen, and by all pairs. No program is in sight. -/
namespace Go.Proofs.YtngonchkhmjenaaGreatDoorBv
open Go
set_option linter.unusedVariables false
section
variable {α : Type} [DecidableEq α]
def pairsOK (l:List (Int×α)):Prop:=∀(i k:Nat) (x y:Int×α),i<k→l[i]? = some x→l[k]? = some y→x.1=y.1→x.2=y.2∧∀(j:Nat) (z:Int×α),i≤j→j<k→l[j]? = some z→z.1=y.1
def docsGo:List Int→Option (Int×α)→List (Int×α)→Bool
 | _,_,[]=>true
 | seen,none,x::r=>!(seen.contains x.1)&&docsGo (x.1::seen) (some x) r
 | seen,some p,x::r=>if p.1=x.1 then decide (p.2=x.2)&&docsGo seen (some x) r else !(seen.contains x.1)&&docsGo (x.1::seen) (some x) r
omit [DecidableEq α] in
theorem pairs_pre {p r:List (Int×α)}(h:pairsOK (p ++ r)):pairsOK p:=by
 intro i k x y hik hx hy he
 have hk:k<p.length:=(List.getElem?_eq_some_iff.1 hy).1
 have g:∀(j:Nat),j<p.length→(p ++ r)[j]? = p[j]?:=fun j hj=>List.getElem?_append_left hj
 obtain ⟨h1,h2⟩:=h i k x y hik (by rw [g i (by omega)]; exact hx) (by rw [g k hk]; exact hy) he
 exact ⟨h1,fun j z h3 h4 hz=>h2 j z h3 h4 (by rw [g j (by omega)]; exact hz)⟩
omit [DecidableEq α] in
theorem pairs_step {p:List (Int×α)}{x:Int×α}(hp:pairsOK p):pairsOK (p ++ [x])↔∀(i:Nat) (y:Int×α),p[i]? = some y→y.1=x.1→y.2=x.2∧∀(j:Nat) (z:Int×α),i≤j→p[j]? = some z→z.1=x.1:=by
 have g:∀(j:Nat),j<p.length→(p ++ [x])[j]? = p[j]?:=fun j hj=>List.getElem?_append_left hj
 have gl:(p ++ [x])[p.length]? = some x:=by rw [List.getElem?_append_right (Nat.le_refl _)]; simp
 constructor
 ·intro h i y hy he
  have hi:i<p.length:=(List.getElem?_eq_some_iff.1 hy).1
  obtain ⟨h1,h2⟩:=h i p.length y x hi (by rw [g i hi]; exact hy) gl he
  refine ⟨h1,fun j z h3 hz=>?_⟩
  have hj:j<p.length:=(List.getElem?_eq_some_iff.1 hz).1
  exact h2 j z h3 hj (by rw [g j hj]; exact hz)
 ·intro h i k y z hik hy hz he
  have hk:k<(p ++ [x]).length:=(List.getElem?_eq_some_iff.1 hz).1
  rw [List.length_append,List.length_singleton] at hk
  by_cases hkl:k<p.length
  ·rw [g k hkl] at hz
   rw [g i (by omega)] at hy
   obtain ⟨h1,h2⟩:=hp i k y z hik hy hz he
   exact ⟨h1,fun j w h3 h4 hw=>h2 j w h3 h4 (by rw [← g j (by omega)]; exact hw)⟩
  ·obtain rfl:k=p.length:=by omega
   rw [gl] at hz
   cases hz
   rw [g i hik] at hy
   obtain ⟨h1,h2⟩:=h i y hy he
   exact ⟨h1,fun j w h3 h4 hw=>h2 j w h3 (by rw [← g j h4]; exact hw)⟩
theorem docs_go:∀(r p:List (Int×α)) (seen:List Int),pairsOK p→(∀ d,seen.contains d=true↔∃ y,y ∈ p∧y.1=d)→(docsGo seen p.getLast? r=true↔pairsOK (p ++ r))
 | [],p,seen,hp,_=>by
  rw [List.append_nil]
  constructor
  ·intro _; exact hp
  ·intro _
   unfold docsGo
   rfl
 | x::r,p,seen,hp,hs=>by
  have e:p ++ x::r=(p ++ [x]) ++ r:=by simp
  have hl:(p ++ [x]).getLast? = some x:=by simp
  have st:=pairs_step (x:=x) hp
  have ih:=fun (seen' : List Int) (hx:pairsOK (p ++ [x])) (hs' : ∀ d,seen'.contains d=true↔∃ y,y ∈ p ++ [x]∧y.1=d)=>docs_go r (p ++ [x]) seen' hx hs'
  rw [hl] at ih
  have new:∀ d,(x.1::seen).contains d=true↔∃ y,y ∈ p ++ [x]∧y.1=d:=by
   intro d
   rw [List.contains_cons,Bool.or_eq_true,hs d]
   constructor
   ·rintro (h | ⟨y,h1,h2⟩)
    ·exact ⟨x,by simp,by simpa using (beq_iff_eq.1 h).symm⟩
    ·exact ⟨y,List.mem_append.2 (.inl h1),h2⟩
   ·rintro ⟨y,h1,h2⟩
    rcases List.mem_append.1 h1 with h | h
    ·exact .inr ⟨y,h,h2⟩
    ·rw [List.mem_singleton] at h; subst h; subst h2; exact .inl (by simp)
  have fin:∀(C:Bool) (seen' : List Int),(C=true↔pairsOK (p ++ [x]))→(pairsOK (p ++ [x])→∀ d,seen'.contains d=true↔∃ y,y ∈ p ++ [x]∧y.1=d)→((C&&docsGo seen' (some x) r)=true↔pairsOK (p ++ x::r)):=by
   intro C seen' hC hs'
   rw [Bool.and_eq_true,hC,e]
   constructor
   ·rintro ⟨h1,h2⟩; exact (ih seen' h1 (hs' h1)).1 h2
   ·intro h
    have h1:=pairs_pre h
    exact ⟨h1,(ih seen' h1 (hs' h1)).2 h⟩
  cases hq:p.getLast? with
  | none =>
   have:p=[]:=by simpa using hq
   subst this
   rw [docsGo]
   refine fin _ _ ?_ (fun _=>new)
   rw [st]
   constructor
   ·intro _ i y hy; cases hy
   ·intro _
    cases hc:seen.contains x.1 with
    | false=>rfl
    | true=>obtain ⟨y,hy,_⟩:=(hs x.1).1 hc; cases hy
  | some q =>
   have hne:p≠[]:=by rintro rfl; cases hq
   have hpos:0<p.length:=List.length_pos_iff.2 hne
   have hlast:p[p.length - 1]? = some q:=by rw [← List.getLast?_eq_getElem?]; exact hq
   rw [docsGo]
   by_cases hd:q.1=x.1
   ·rw [if_pos hd]
    refine fin _ _ ?_ (fun _ d=>?_)
    ·rw [st,decide_eq_true_eq]
     constructor
     ·intro h2 i y hy he
      have hi:i<p.length:=(List.getElem?_eq_some_iff.1 hy).1
      by_cases hil:i=p.length - 1
      ·subst hil
       rw [hlast] at hy
       cases hy
       refine ⟨h2,fun j z hj hz=>?_⟩
       have hjl:j<p.length:=(List.getElem?_eq_some_iff.1 hz).1
       obtain rfl:j=p.length - 1:=by omega
       rw [hlast] at hz
       cases hz
       exact hd
      ·obtain ⟨g1,g2⟩:=hp i (p.length - 1) y q (by omega) hy hlast (by rw [he,hd])
       refine ⟨by rw [g1,h2],fun j z hj hz=>?_⟩
       have hjl:j<p.length:=(List.getElem?_eq_some_iff.1 hz).1
       by_cases hjj:j=p.length - 1
       ·subst hjj
        rw [hlast] at hz
        cases hz
        exact hd
       ·rw [g2 j z hj (by omega) hz,hd]
     ·intro h
      exact (h (p.length - 1) q hlast hd).1
    ·rw [hs d]
     constructor
     ·rintro ⟨y,h1,h2⟩; exact ⟨y,List.mem_append.2 (.inl h1),h2⟩
     ·rintro ⟨y,h1,h2⟩
      rcases List.mem_append.1 h1 with h | h
      ·exact ⟨y,h,h2⟩
      ·rw [List.mem_singleton] at h
       subst h
       exact ⟨q,List.mem_of_getElem? hlast,by rw [hd,h2]⟩
   ·rw [if_neg hd]
    refine fin _ _ ?_ (fun _=>new)
    rw [st,Bool.not_eq_true']
    constructor
    ·intro h i y hy he
     exfalso
     have:seen.contains x.1=true:=(hs x.1).2 ⟨y,List.mem_of_getElem? hy,he⟩
     rw [h] at this
     cases this
    ·intro h
     cases hc:seen.contains x.1 with
     | false=>rfl
     | true =>
      obtain ⟨y,hy,he⟩:=(hs x.1).1 hc
      obtain ⟨i,hi⟩:=List.getElem?_of_mem hy
      have hil:i<p.length:=(List.getElem?_eq_some_iff.1 hi).1
      exact absurd ((h i y hi he).2 (p.length - 1) q (by omega) hlast) hd
theorem docs_pairs (l:List (Int×α)):docsGo [] none l=true↔pairsOK l:=by
 have:=docs_go l [] [] (fun i k x y h hx=>by cases hx) (fun d=>by simp)
 simpa using this
end
end Go.Proofs.YtngonchkhmjenaaGreatDoorBv
/- Where one was: its check is the document's. No program is in sight. -/
namespace Go.Proofs.YtngonchkhmjenaaGreatDoorBv
open Go
set_option linter.unusedSimpArgs false
set_option linter.unusedVariables false
theorem resolve_short {base ref:List UInt8}(h:(resS base ref).2=0):(resS base ref).1.length≤500:=by
 have e:=(resolve_eq base ref).1
 generalize resS base ref=x at e h
 have j1:∀(e:Int) (u0 u1:List UInt8) (u2:Int) (u3:List (List UInt8)) (u4:List UInt8) (u5:Bool) (u6:List UInt8) (u7:Bool),Z1b e u0 u1 u2 u3 u4 u5 u6 u7=some x→x.1.length≤500:=by
  intro e u0 u1 u2 u3 u4 u5 u6 u7 hj
  unfold Z1b at hj
  split at hj
  ·rename_i he
   cases hj
   simp at he h
   exact absurd h he
  ·obtain ⟨r,_,hj⟩:=Option.bind_eq_some_iff.1 hj
   split at hj
   ·cases hj; simp
   ·rename_i hr
    cases hj
    simp only [decide_eq_true_eq] at hr
    show r.length≤500
    omega
 unfold Zl at e
 obtain ⟨r,_,e⟩:=Option.bind_eq_some_iff.1 e
 split at e
 ·cases e; simp
 ·split at e
  ·cases e; simp
  ·obtain ⟨r1,_,e⟩:=Option.bind_eq_some_iff.1 e
   split at e
   ·obtain ⟨r2,_,e⟩:=Option.bind_eq_some_iff.1 e
    exact j1 _ _ _ _ _ _ _ _ _ e
   ·obtain ⟨r2,_,e⟩:=Option.bind_eq_some_iff.1 e
    split at e
    ·obtain ⟨r3,_,e⟩:=Option.bind_eq_some_iff.1 e
     obtain ⟨r4,_,e⟩:=Option.bind_eq_some_iff.1 e
     obtain ⟨r5,_,e⟩:=Option.bind_eq_some_iff.1 e
     exact j1 _ _ _ _ _ _ _ _ _ e
    ·obtain ⟨r3,_,e⟩:=Option.bind_eq_some_iff.1 e
     exact j1 _ _ _ _ _ _ _ _ _ e
/-! ### origins -/
noncomputable def origP (s:List UInt8):List UInt8:=if (addrS s).2=0 then origS (addrS s).1 else []
theorem origin_eq (s:List UInt8):Z1s s=some (origP s):=by
 unfold Z1s Z5q origP
 rw [parse_eq]
 simp only [Option.bind_some]
 rcases addr_ok s with ⟨h0,h⟩ | h | h
 ·have ho:=orig_eq (addrS s).1 (by have:=h.sch; omega) (by have:=h.host; omega) (by have:=h.port; omega)
  rw [h0,url_orig,ho]
  simp
 ·rw [h]; simp
 ·rw [h]; simp
theorem origR_eq (s:List UInt8):Zc (addrS s).1=some (origS (addrS s).1):=by
 have h:=addr_med s
 exact orig_eq _ (by have:=h.sch; omega) (by have:=h.host; omega) (by have:=h.port; omega)
theorem loB_ne (c:UInt8):(decide (c=58)||!decide (loB c=58))=true:=u8_all (p:=fun c=>decide (c=58)||!decide (loB c=58)) (by decide +kernel) c
theorem end_sch {t h s:List UInt8}{n:Int}(h0:(endS t h n s).2=0):(endS t h n s).1.Scheme=t:=by
 unfold endS at h0 ⊢
 simp only at h0 ⊢
 generalize (if (tailS ⟨t,h,n,[],[],false,[],false⟩ s).1.take 1=[47] then (tailS ⟨t,h,n,[],[],false,[],false⟩ s).1.drop 1 else (tailS ⟨t,h,n,[],[],false,[],false⟩ s).1)=p at h0 ⊢
 cases hsg:segS p with
 | none=>rw [hsg] at h0; exact absurd h0 (by simp)
 | some l =>
  rw [hsg] at h0
  simp only at h0 ⊢
  split at h0
  ·rename_i hc; rw [if_pos hc]
  ·exact absurd h0 (by simp)
theorem addr_sch {s:List UInt8}(h0:(addrS s).2=0):∃ c r,(addrS s).1.Scheme=c::r∧c≠58:=by
 unfold addrS at h0 ⊢
 split at h0
 ·exact absurd h0 (by simp)
 ·rename_i h5
  rw [if_neg h5]
  cases hk:sK true s with
  | none=>rw [hk] at h0; exact absurd h0 (by simp)
  | some k =>
   rw [hk] at h0
   simp only at h0 ⊢
   obtain ⟨_,hne,hkl,_,hpos⟩:=sK_some s true k hk
   split at h0
   ·rename_i h2
    rw [if_pos h2]
    cases hp:placeS ((s.take k).map loB) (upTo [47,63,35] ((s.drop (k+1)).drop 2)) with
    | none=>rw [hp] at h0; exact absurd h0 (by simp)
    | some hn =>
     obtain ⟨h,n⟩:=hn
     rw [hp] at h0
     simp only at h0 ⊢
     rw [end_sch h0]
     cases s with
     | nil=>simp at hkl
     | cons c r =>
      have hk0:=hpos rfl
      obtain ⟨m,rfl⟩:∃ m,k=m+1:=⟨k - 1,by omega⟩
      have hc:=hne c (by simp)
      refine ⟨loB c,(r.take m).map loB,by simp,?_⟩
      have:=loB_ne c
      simpa [hc] using this
   ·exact absurd h0 (by simp)
theorem orig_bad {s t:List UInt8}(ht:(addrS t).2=0):(origP s=origP t)↔(origS (addrS s).1=origS (addrS t).1):=by
 have e:origP t=origS (addrS t).1:=if_pos ht
 rw [e]
 rcases addr_ok s with ⟨h0,h⟩ | h | h
 ·rw [show origP s=origS (addrS s).1 from if_pos h0]
 all_goals
  have e1:origP s=[]:=if_neg (by rw [h]; simp)
  obtain ⟨c,r,hs,hc⟩:=addr_sch ht
  rw [e1,h]
  constructor
  ·intro hx
   unfold origS at hx
   rw [hs] at hx
   simp at hx
  ·intro hx
   unfold origS at hx
   rw [hs] at hx
   simp at hx
   exact absurd hx.1.symm hc
/-! ### entries -/
noncomputable def cl (e:TJEntry):Bool:=decide ((resS e.Url e.Url).2=0)&&decide ((resS e.Url e.Url).1=e.Url)
def big (e:TJEntry):Bool:=decide (2000<(e.State.length:Int))
def docok (e:TJEntry):Bool:=decide (0≤e.Doc)&&decide (e.Doc≤1000000)
noncomputable def pr (e:TJEntry):Int×List UInt8:=(e.Doc,origP e.Url)
theorem tclean_eq (s:List UInt8):Z4f s=some (decide ((resS s s).2=0)&&decide ((resS s s).1=s)):=by
 unfold Z4f
 rw [(resolve_eq s s).1,Option.bind_some]
theorem clean_addr {s:List UInt8}(h:(resS s s).2=0):(addrS s).2=0:=by
 have e:=(resolve_eq s s).1
 unfold Zl at e
 rw [parse_eq,Option.bind_some] at e
 split at e
 ·rename_i hb
  have hx:=Option.some.inj e
  rw [← hx] at h
  exact h
 ·rename_i hb
  simpa using hb
theorem cl_addr {e:TJEntry}(h:cl e=true):(addrS e.Url).2=0:=by
 unfold cl at h
 simp only [Bool.and_eq_true,decide_eq_true_eq] at h
 exact clean_addr h.1
theorem cl_short {e:TJEntry}(h:cl e=true):e.Url.length≤500:=by
 unfold cl at h
 simp only [Bool.and_eq_true,decide_eq_true_eq] at h
 have:=resolve_short h.1
 rwa [h.2] at this
/-! ### the program's check -/
def idxR (p:TJEntry→Bool) (l:List TJEntry) (i:Nat):Int:=if (l.drop i).any p then ((i+(l.drop i).findIdx p:Nat):Int) else -1
theorem idxR_hit {p:TJEntry→Bool}{l:List TJEntry}{i:Nat}(h:i<l.length) (hp:p l[i]=true):idxR p l i=(i:Int):=by
 unfold idxR
 rw [List.drop_eq_getElem_cons h,List.any_cons,List.findIdx_cons,hp]
 simp
theorem idxR_miss {p:TJEntry→Bool}{l:List TJEntry}{i:Nat}(h:i<l.length) (hp:p l[i]=false):idxR p l i=idxR p l (i+1):=by
 unfold idxR
 have e:=List.drop_eq_getElem_cons h
 rw [e,List.any_cons,List.findIdx_cons,hp]
 simp only [Bool.false_or,cond_false]
 split
 ·omega
 ·rfl
theorem idxR_end {p:TJEntry→Bool}{l:List TJEntry}{i:Nat}(h:l.length≤i):idxR p l i = -1:=by
 unfold idxR
 rw [List.drop_of_length_le h]
 rfl
theorem idxR_pos (p:TJEntry→Bool) (l:List TJEntry):decide (0≤idxR p l 0)=l.any p:=by
 unfold idxR
 rw [List.drop_zero]
 cases h:l.any p with
 | false=>simp
 | true=>simp only [if_true,decide_eq_true_eq]; omega
theorem idx_big (l:List TJEntry) (hl:l.length≤100000000):∀(N i:Nat),l.length - i<N→i≤l.length→Zz l (fun _=>some (-1)) N (i:Int)=some (idxR big l i)
 | 0,i,hN,hi=>by omega
 | N+1,i,hN,hi=>by
  rw [Zz]
  by_cases h:i<l.length
  ·rw [if_pos (by simp only [decide_eq_true_eq]; omega),at_some h,Option.bind_some]
   show (if big l[i]=true then _ else _)=_
   cases hb:big l[i] with
   | true=>rw [if_pos rfl,idxR_hit h hb]
   | false =>
    rw [if_neg (by simp),idxR_miss h hb,wi_id (by omega) (by omega),show (i:Int)+1=((i+1:Nat):Int) by omega]
    exact idx_big l hl N (i+1) (by omega) (by omega)
  ·rw [if_neg (by simp only [decide_eq_true_eq]; omega),idxR_end (by omega)]
theorem con_big (l:List TJEntry) (hl:l.length≤100000000):Z4e l=some (l.any big):=by
 unfold Z4e Z5o
 show (lim fun kk=>Zz l (fun _=>some (-1)) kk ((0:Nat):Int)).bind _=_
 rw [lim_eq (l.length+1) fun k hk=>idx_big l hl k 0 (by omega) (by omega),Option.bind_some,idxR_pos]
theorem idx_cl (l:List TJEntry) (hl:l.length≤100000000):∀(N i:Nat),l.length - i<N→i≤l.length→Z10 l (fun _=>some (-1)) N (i:Int)=some (idxR (fun e=>!cl e) l i)
 | 0,i,hN,hi=>by omega
 | N+1,i,hN,hi=>by
  rw [Z10]
  by_cases h:i<l.length
  ·rw [if_pos (by simp only [decide_eq_true_eq]; omega),at_some h,Option.bind_some]
   have e:Z4g l[i]=some (!cl l[i]):=by unfold Z4g; rw [tclean_eq]; rfl
   rw [e,Option.bind_some]
   cases hb:(!cl l[i]) with
   | true=>rw [if_pos rfl,idxR_hit (p:=fun e=>!cl e) h hb]
   | false =>
    rw [if_neg (by simp),idxR_miss (p:=fun e=>!cl e) h hb,wi_id (by omega) (by omega),show (i:Int)+1=((i+1:Nat):Int) by omega]
    exact idx_cl l hl N (i+1) (by omega) (by omega)
  ·rw [if_neg (by simp only [decide_eq_true_eq]; omega),idxR_end (by omega)]
theorem con_cl (l:List TJEntry) (hl:l.length≤100000000):Z4h l=some (l.any fun e=>!cl e):=by
 unfold Z4h Z5p
 show (lim fun kk=>Z10 l (fun _=>some (-1)) kk ((0:Nat):Int)).bind _=_
 rw [lim_eq (l.length+1) fun k hk=>idx_cl l hl k 0 (by omega) (by omega),Option.bind_some,idxR_pos]
theorem mget_mset {κ ν:Type} [DecidableEq κ] (k:κ) (v:ν) (x:κ):∀ l:List (κ×ν),mget (mset l k v) x=if x=k then some v else mget l x
 | []=>by simp only [mset,mget]
 | p::r=>by
  have ih:=mget_mset k v x r
  simp only [mset]
  by_cases h:k=p.1
  ·rw [if_pos h]
   simp only [mget]
   by_cases h2:x=k
   ·rw [if_pos h2,if_pos h2]
   ·rw [if_neg h2,if_neg h2,if_neg (by rw [← h]; exact h2)]
  ·rw [if_neg h]
   simp only [mget]
   by_cases h2:x=p.1
   ·have h3:¬ x=k:=by intro e; exact h (by rw [← e]; exact h2)
    rw [if_pos h2,if_neg h3,if_pos h2]
   ·rw [if_neg h2,ih]
    by_cases h3:x=k
    ·rw [if_pos h3,if_pos h3]
    ·rw [if_neg h3,if_neg h3,if_neg h2]
theorem docs_loop (l:List TJEntry) (hl:l.length≤100000000):∀(N i:Nat) (seen:List (Int×Int)) (S:List Int),l.length - i<N→i≤l.length→(∀ d,(mget seen d).getD 0=1↔S.contains d=true) →
  Zm l (fun _=>some true) N seen (i:Int)=some ((l.drop i).all docok&&docsGo S (if i=0 then none else l[i - 1]?.map pr) ((l.drop i).map pr))
 | 0,i,seen,S,hN,hi,hS=>by omega
 | N+1,i,seen,S,hN,hi,hS=>by
  rw [Zm]
  by_cases h:i<l.length
  ·have ec:=List.drop_eq_getElem_cons h
   rw [if_pos (by simp only [decide_eq_true_eq]; omega),at_some h,Option.bind_some,ec,List.all_cons,List.map_cons]
   have hd:((decide (l[i].Doc<0))||(decide (1000000<l[i].Doc)))=!docok l[i]:=by
    unfold docok
    by_cases h1:0≤l[i].Doc
    ·by_cases h2:l[i].Doc≤1000000
     ·simp [h1,h2]
     ·simp [h1,h2]; omega
    ·simp [h1]; omega
   rw [hd]
   cases hk:docok l[i] with
   | false=>simp
   | true =>
    rw [if_neg (by simp),Bool.true_and]
    have hw:wi ((i:Int)+1)=((i+1:Nat):Int):=by rw [wi_id (by omega) (by omega)]; omega
    have hnext:(if i+1=0 then none else l[i+1 - 1]?.map pr)=some (pr l[i]):=by simp [List.getElem?_eq_getElem h]
    have ih1:=fun (seen' : List (Int×Int)) (S' : List Int) (hS' : ∀ d,(mget seen' d).getD 0=1↔S'.contains d=true)=>docs_loop l hl N (i+1) seen' S' (by omega) (by omega) hS'
    rw [hnext] at ih1
    have miss:∀ P:Option (Int×List UInt8),(∀ p,P=some p→p.1≠l[i].Doc)→Z2h l (i:Int) l[i] seen (Zm l (fun _=>some true) N) (fun _=>some true) false=some ((l.drop (i+1)).all docok&&docsGo S P (pr l[i]::(l.drop (i+1)).map pr)):=by
     intro P hP
     have eg:docsGo S P (pr l[i]::(l.drop (i+1)).map pr)=(!(S.contains l[i].Doc)&&docsGo (l[i].Doc::S) (some (pr l[i])) ((l.drop (i+1)).map pr)):=by
      cases P with
      | none=>rw [docsGo]; rfl
      | some p=>rw [docsGo,if_neg (show ¬ p.1=(pr l[i]).1 from hP p rfl)]; rfl
     rw [eg]
     unfold Z2h
     rw [if_neg (by simp)]
     cases hc:S.contains l[i].Doc with
     | true=>rw [if_pos (by simpa using (hS l[i].Doc).2 hc)]; simp
     | false =>
      rw [if_neg (by intro hh; have:=(hS l[i].Doc).1 (by simpa using hh); rw [hc] at this; cases this),letIn_eq]
      unfold Z37
      rw [hw,ih1 _ (l[i].Doc::S) ?_]
      ·simp
      ·intro d
       rw [List.contains_cons,Bool.or_eq_true]
       by_cases hdd:d=l[i].Doc
       ·rw [mget_mset,if_pos hdd]; simp [hdd]
       ·rw [mget_mset,if_neg hdd,hS d]
        simp [hdd]
    by_cases h0:i=0
    ·subst h0
     rw [if_neg (by simp)]
     exact miss _ (fun p hp=>by simp at hp)
    ·rw [if_pos (by simp only [decide_eq_true_eq]; omega),wi_id (by omega) (by omega),show (i:Int) - 1=((i - 1:Nat):Int) by omega,at_some (show i - 1<l.length by omega),Option.bind_some,if_neg h0,List.getElem?_eq_getElem (show i - 1<l.length by omega),Option.map_some]
     by_cases hsame:l[i - 1].Doc=l[i].Doc
     ·rw [decide_eq_true hsame,docsGo,if_pos (show (pr l[i - 1]).1=(pr l[i]).1 from hsame)]
      unfold Z2h
      rw [if_pos rfl,wi_id (by omega) (by omega),show (i:Int) - 1=((i - 1:Nat):Int) by omega,at_some (show i - 1<l.length by omega),Option.bind_some,origin_eq,Option.bind_some,origin_eq,Option.bind_some]
      by_cases ho:origP l[i - 1].Url=origP l[i].Url
      ·rw [if_neg (by simpa using ho),decide_eq_true (show (pr l[i - 1]).2=(pr l[i]).2 from ho),Bool.true_and]
       unfold Z37
       rw [hw,ih1 seen S hS]
      ·rw [if_pos (by simpa using ho),decide_eq_false (show ¬ (pr l[i - 1]).2=(pr l[i]).2 from ho)]
       simp
     ·rw [decide_eq_false hsame]
      exact miss _ (fun p hp=>by cases hp; exact hsame)
  ·rw [if_neg (by simp only [decide_eq_true_eq]; omega),List.drop_of_length_le (by omega)]
   simp [docsGo]
noncomputable def docsB (l:List TJEntry):Bool:=l.all docok&&docsGo [] none (l.map pr)
theorem docs_eq (l:List TJEntry) (hl:l.length≤100000000):Z4i l=some (docsB l):=by
 unfold Z4i
 refine lim_eq (l.length+1) fun k hk=>?_
 exact docs_loop l hl k 0 [] [] (by omega) (by omega) (fun d=>by simp [mget])
noncomputable def chkS (t:TJTrail):Int :=
 if 50<t.Entries.length∨t.Entries.any big=true then 2
 else if (t.At<0∨(t.Entries.length:Int)≤t.At)∨(t.Entries.any fun e=>!cl e)=true∨docsB t.Entries=false then 3 else 0
theorem check_eq (t:TJTrail):Z2i t=some (chkS t):=by
 unfold Z2i chkS
 by_cases h5:50<t.Entries.length
 ·rw [if_pos (by simp only [decide_eq_true_eq]; omega),if_pos (.inl h5)]
  rfl
 ·rw [if_neg (by simp only [decide_eq_true_eq]; omega),con_big _ (by omega),Option.bind_some]
  unfold Z4l
  cases hb:t.Entries.any big with
  | true=>rw [if_pos rfl,if_pos (.inr rfl)]
  | false =>
   rw [if_neg (by simp),if_neg (c:=50<t.Entries.length∨false=true) (by simp [h5])]
   by_cases ha:t.At<0∨(t.Entries.length:Int)≤t.At
   ·rw [if_pos (by simpa using ha),if_pos (show (t.At<0∨(t.Entries.length:Int)≤t.At)∨_∨_ from .inl ha)]; rfl
   ·rw [if_neg (by simpa using ha),con_cl _ (by omega),Option.bind_some]
    cases hc:(t.Entries.any fun e=>!cl e) with
    | true=>rw [if_pos rfl,if_pos (.inr (.inl rfl))]; rfl
    | false =>
     rw [if_neg (by simp),docs_eq _ (by omega),Option.bind_some]
     cases hd:docsB t.Entries with
     | true=>rw [if_neg (by simp [ha])]; rfl
     | false=>rw [if_pos (by simp)]; rfl
end Go.Proofs.YtngonchkhmjenaaGreatDoorBv
/- Where one was: the document's check is the program's. No program is in sight. -/
namespace Go.Proofs.YtngonchkhmjenaaGreatDoorBv
open Go
set_option linter.unusedSimpArgs false
set_option linter.unusedVariables false
noncomputable def origE (e:TJEntry):List UInt8:=origS (addrS e.Url).1
noncomputable def FF (x:TJEntry):List TJEntry→Bool
 | []=>true
 | y::r=>(if y.Doc=x.Doc then decide (origE x=origE y)&&(y::r).all (fun z=>decide (z.Doc=x.Doc)) else true)&&FF x r
theorem tr_l90 (r4:List TJEntry) (hl:r4.length≤140737488355328) (x:TJEntry) (lg:Bool) (v31:Int) (t:TJTrail) (r2:List TJEntry) (v83:Int) (r1:TJUrl×Int) (K:Bool→Option Int):∀(N i:Nat) (b:Bool),r4.length - i<N→i≤r4.length →
  Z1j r4 x lg v31 t r2 v83 r1 K N b (i:Int)=K (b&&(r4.drop i).all (fun z=>decide (z.Doc=x.Doc)))
 | 0,i,b,hN,hi=>by omega
 | N+1,i,b,hN,hi=>by
  rw [Z1j]
  by_cases h:i<r4.length
  ·rw [if_pos (by simp only [decide_eq_true_eq]; omega),at_some h,Option.bind_some,wi_id (by omega) (by omega),show (i:Int)+1=((i+1:Nat):Int) by omega,tr_l90 r4 hl x lg v31 t r2 v83 r1 K N (i+1) _ (by omega) (by omega),List.drop_eq_getElem_cons h,List.all_cons,Bool.and_assoc]
  ·rw [if_neg (by simp only [decide_eq_true_eq]; omega),List.drop_of_length_le (by omega)]
   simp
theorem tr_l87 (t:TJTrail) (hl:t.Entries.length≤140737488355328) (n:Nat) (hn:n≤t.Entries.length) (x:TJEntry) (lg:Bool) (K:Bool→Option Int):∀(N i:Nat) (b:Bool),n - i<N→i≤n →
  Za (t.Entries.take n) x lg (n:Int) t (addrS x.Url) K N b (i:Int)=K (b&&FF x ((t.Entries.take n).drop i))
 | 0,i,b,hN,hi=>by omega
 | N+1,i,b,hN,hi=>by
  have hlen:(t.Entries.take n).length=n:=by rw [List.length_take]; omega
  rw [Za]
  by_cases h:i<n
  ·have h' : i<(t.Entries.take n).length:=by omega
   have ec:=List.drop_eq_getElem_cons h'
   rw [if_pos (by simp only [decide_eq_true_eq]; omega),at_some h',Option.bind_some]
   have hw:wi ((i:Int)+1)=((i+1:Nat):Int):=by rw [wi_id (by omega) (by omega)]; omega
   have ih:=fun b' => tr_l87 t hl n hn x lg K N (i+1) b' (by omega) (by omega)
   by_cases hd:(t.Entries.take n)[i].Doc=x.Doc
   ·rw [if_neg (by simpa using hd),addressed_eq,Option.bind_some]
    have j111:∀ b',Z24 t (i:Int) (n:Int) x lg (t.Entries.take n) (addrS x.Url) (Za (t.Entries.take n) x lg (n:Int) t (addrS x.Url) K N) K b' = K ((b' && ((t.Entries.take n).drop i).all (fun z=>decide (z.Doc=x.Doc)))&&FF x ((t.Entries.take n).drop (i+1))):=by
     intro b'
     unfold Z24
     rw [sub_nat (by omega) hn,Option.bind_some]
     refine lim_eq (n+1) fun k hk=>?_
     refine (tr_l90 _ (by rw [List.length_drop]; omega) x lg _ t _ _ _ _ k 0 b' (by rw [List.length_drop]; omega) (by omega)).trans ?_
     unfold Z3p
     rw [hw,ih,List.drop_zero]
    have e2:(if b=true then (Zc (addrS x.Url).1).bind fun r5=>(Zc (addrS (t.Entries.take n)[i].Url).1).bind fun r6=>Z24 t (i:Int) (n:Int) x lg (t.Entries.take n) (addrS x.Url) (Za (t.Entries.take n) x lg (n:Int) t (addrS x.Url) K N) K (decide (r5=r6)) else Z24 t (i:Int) (n:Int) x lg (t.Entries.take n) (addrS x.Url) (Za (t.Entries.take n) x lg (n:Int) t (addrS x.Url) K N) K false)
      = K (b&&FF x ((t.Entries.take n).drop i)):=by
     rw [origR_eq,origR_eq]
     simp only [Option.bind_some,j111]
     conv=>rhs; rw [ec,FF,if_pos hd,← ec]
     cases b with
     | false=>simp
     | true=>simp only [if_true,Bool.true_and]; rfl
    exact e2
   ·rw [if_pos (by simpa using hd)]
    unfold Z3p
    rw [hw,ih]
    conv=>rhs; rw [ec,FF,if_neg hd,Bool.true_and]
  ·rw [if_neg (by simp only [decide_eq_true_eq]; omega),List.drop_of_length_le (by omega)]
   simp [FF]
theorem origE_P {e:TJEntry}(h:cl e=true):origE e=origP e.Url:=(if_pos (cl_addr h)).symm
theorem FF_iff (x:TJEntry) (hx:cl x=true):∀ p:List TJEntry,p.all cl=true→(FF x p=true↔∀(k:Nat) (y:Int×List UInt8),(p.map pr)[k]? = some y→y.1=(pr x).1→y.2=(pr x).2∧∀(j:Nat) (z:Int×List UInt8),k≤j→(p.map pr)[j]? = some z→z.1=(pr x).1)
 | [],_=>by
  constructor
  ·intro _ k y hy; simp at hy
  ·intro _; rfl
 | e::r,hp=>by
  rw [List.all_cons,Bool.and_eq_true] at hp
  have ih:=FF_iff x hx r hp.2
  rw [FF,Bool.and_eq_true,ih,List.map_cons]
  have all_iff:(r.all (fun z=>decide (z.Doc=x.Doc))=true)↔∀(j:Nat) (z:Int×List UInt8),(r.map pr)[j]? = some z→z.1=(pr x).1:=by
   rw [List.all_eq_true]
   constructor
   ·intro h j z hz
    rw [List.getElem?_map] at hz
    obtain ⟨w,hw,rfl⟩:=Option.map_eq_some_iff.1 hz
    exact of_decide_eq_true (h w (List.mem_of_getElem? hw))
   ·intro h z hz
    obtain ⟨j,hj⟩:=List.getElem?_of_mem hz
    exact decide_eq_true (show z.Doc=x.Doc from h j (pr z) (by rw [List.getElem?_map,hj]; rfl))
  constructor
  ·rintro ⟨h1,h2⟩ k y hy he
   cases k with
   | zero =>
    rw [List.getElem?_cons_zero] at hy
    cases hy
    rw [if_pos (show e.Doc=x.Doc from he),Bool.and_eq_true,List.all_cons,Bool.and_eq_true] at h1
    refine ⟨?_,fun j z hj hz=>?_⟩
    ·have h3:=of_decide_eq_true h1.1
     rw [origE_P hx,origE_P hp.1] at h3
     exact h3.symm
    ·cases j with
     | zero=>rw [List.getElem?_cons_zero] at hz; cases hz; exact he
     | succ j=>rw [List.getElem?_cons_succ] at hz; exact all_iff.1 h1.2.2 j z hz
   | succ k =>
    rw [List.getElem?_cons_succ] at hy
    obtain ⟨a1,a2⟩:=h2 k y hy he
    refine ⟨a1,fun j z hj hz=>?_⟩
    cases j with
    | zero=>omega
    | succ j=>rw [List.getElem?_cons_succ] at hz; exact a2 j z (by omega) hz
  ·intro h
   constructor
   ·by_cases hd:e.Doc=x.Doc
    ·rw [if_pos hd,Bool.and_eq_true,List.all_cons,Bool.and_eq_true]
     obtain ⟨a1,a2⟩:=h 0 (pr e) List.getElem?_cons_zero hd
     refine ⟨?_,by simpa using hd,all_iff.2 fun j z hz=>a2 (j+1) z (by omega) (by rw [List.getElem?_cons_succ]; exact hz)⟩
     rw [decide_eq_true_eq,origE_P hx,origE_P hp.1]
     exact a1.symm
    ·rw [if_neg hd]
   ·intro k y hy he
    obtain ⟨a1,a2⟩:=h (k+1) y (by rw [List.getElem?_cons_succ]; exact hy) he
    exact ⟨a1,fun j z hj hz=>a2 (j+1) z (by omega) (by rw [List.getElem?_cons_succ]; exact hz)⟩
theorem btw_eq (n a b:Int):Z1 n a b=(decide (a≤n)&&decide (n≤b)):=rfl
noncomputable def INV (t:TJTrail) (i:Nat) (lg rt:Bool):Prop :=
 lg=(decide (50<t.Entries.length)||(t.Entries.take i).any big)∧(lg=false→(rt=true↔((0≤t.At∧t.At≤(t.Entries.length:Int) - 1)∧(t.Entries.take i).all (fun e=>cl e&&docok e)=true∧pairsOK ((t.Entries.take i).map pr))))
theorem tr_l60 (t:TJTrail) (hl:t.Entries.length≤140737488355328) (K:Bool→Bool→Option Int):∀(N i:Nat) (lg rt:Bool),t.Entries.length - i<N→i≤t.Entries.length→INV t i lg rt →
  ∃ lg' rt',INV t t.Entries.length lg' rt' ∧ ∀ M,t.Entries.length - i<M→Zb t K M lg rt (i:Int)=K lg' rt'
 | 0,i,lg,rt,hN,hi,hI=>by omega
 | N+1,i,lg,rt,hN,hi,hI=>by
  by_cases h:i<t.Entries.length
  ·obtain ⟨x,hx⟩:∃ x,x=t.Entries[i]:=⟨_,rfl⟩
   have htk:t.Entries.take (i+1)=t.Entries.take i ++ [x]:=by rw [List.take_add_one,List.getElem?_eq_getElem h,hx]; rfl
   obtain ⟨rb,hrb⟩:∃ rb,rb=(rt&&(cl x&&docok x)):=⟨_,rfl⟩
   have erb:(((rt&&(decide ((resS x.Url x.Url).2=0)))&&(decide ((resS x.Url x.Url).1=x.Url)))&&(Z1 x.Doc 0 1000000))=rb:=by
    rw [hrb]; unfold cl docok; rw [btw_eq]
    cases rt <;> simp [Bool.and_assoc]
   have ebig:decide (2000<(x.State.length:Int))=big x:=rfl
   have hw:wi ((i:Int)+1)=((i+1:Nat):Int):=by rw [wi_id (by omega) (by omega)]; omega
   have hL:(lg||big x)=(decide (50<t.Entries.length)||(t.Entries.take (i+1)).any big):=by
    rw [htk,List.any_append,hI.1]
    simp [Bool.or_assoc]
   -- the step, whatever the rounds
   obtain ⟨rt2,hst,hI2⟩:∃ rt2,(∀ M,Zb t K (M+1) lg rt (i:Int)=Zb t K M (lg||big x) rt2 ((i+1:Nat):Int))∧INV t (i+1) (lg||big x) rt2:=by
    by_cases hc:((!rb)||(lg||big x))=true
    ·refine ⟨rb,fun M=>?_,hL,fun hlf=>?_⟩
     ·rw [Zb,if_pos (by simp only [decide_eq_true_eq]; omega),at_some h,← hx,Option.bind_some,(resolve_eq x.Url x.Url).2,Option.bind_some,letIn_eq,erb,ebig,if_pos hc]
      unfold Z3o
      rw [hw]
     ·rw [hlf,Bool.or_false] at hc
      have hlg:lg=false:=by cases lg <;> simp_all
      have hr:=hI.2 hlg
      have hrbf:rb=false:=by simpa using hc
      rw [hrbf]
      constructor
      ·intro hh; cases hh
      ·rintro ⟨a1,a2,a3⟩
       rw [htk] at a2 a3
       rw [List.all_append,Bool.and_eq_true,List.all_cons,Bool.and_eq_true] at a2
       rw [List.map_append] at a3
       have:rt=true:=hr.2 ⟨a1,a2.1,pairs_pre a3⟩
       rw [this,a2.2.1] at hrb
       rw [hrbf] at hrb
       cases hrb
    ·have hrbt:rb=true:=by cases rb <;> simp_all
     have hlf:(lg||big x)=false:=by
      cases hh:(lg||big x) with
      | false=>rfl
      | true=>rw [hh,Bool.or_true] at hc; exact absurd rfl hc
     have hlg:lg=false:=by cases lg <;> simp_all
     have hr:=hI.2 hlg
     rw [hrbt] at hrb
     have h3:=hrb.symm
     rw [Bool.and_eq_true,Bool.and_eq_true] at h3
     have h4:=hr.1 h3.1
     have hall:(t.Entries.take i).all cl=true:=by
      rw [List.all_eq_true] at h4 ⊢
      intro e he
      have:=h4.2.1 e he
      rw [Bool.and_eq_true] at this
      exact this.1
     refine ⟨FF x (t.Entries.take i),fun M=>?_,hL,fun _=>?_⟩
     ·rw [Zb,if_pos (by simp only [decide_eq_true_eq]; omega),at_some h,← hx,Option.bind_some,(resolve_eq x.Url x.Url).2,Option.bind_some,letIn_eq,erb,ebig,if_neg hc,addressed_eq,Option.bind_some,show (0:Int)=((0:Nat):Int) from rfl,sub_nat (by omega) (by omega),Option.bind_some,List.drop_zero]
      refine lim_eq (i+1) fun k hk=>?_
      refine (tr_l87 t hl i (by omega) x lg _ k 0 rb (by omega) (by omega)).trans ?_
      unfold Z3o
      rw [hw,hrbt,Bool.true_and,List.drop_zero]
     ·rw [htk,List.map_append,List.map_singleton,pairs_step h4.2.2,← FF_iff x h3.2.1 _ hall]
      constructor
      ·intro hF
       refine ⟨h4.1,?_,hF⟩
       rw [List.all_append,h4.2.1,List.all_cons,h3.2.1,h3.2.2]
       rfl
      ·rintro ⟨_,_,hF⟩; exact hF
   obtain ⟨lg',rt',hI',hM⟩:=tr_l60 t hl K N (i+1) (lg||big x) rt2 (by omega) (by omega) hI2
   refine ⟨lg',rt',hI',fun M hMl=>?_⟩
   cases M with
   | zero=>omega
   | succ M=>rw [hst]; exact hM M (by omega)
  ·obtain rfl:i=t.Entries.length:=by omega
   refine ⟨lg,rt,hI,fun M hM=>?_⟩
   cases M with
   | zero=>omega
   | succ M=>rw [Zb,if_neg (by simp)]
theorem right_eq (t:TJTrail) (hl:t.Entries.length≤140737488355328):Z2u t=some (chkS t):=by
 unfold Z2u
 have h0:INV t 0 (decide (50<(t.Entries.length:Int))) (Z1 t.At 0 (wi ((t.Entries.length:Int) - 1))):=by
  refine ⟨?_,fun _=>?_⟩
  ·rw [List.take_zero,List.any_nil,Bool.or_false,decide_eq_decide]; omega
  rw [btw_eq,wi_id (by omega) (by omega)]
  simp only [Bool.and_eq_true,decide_eq_true_eq,List.take_zero,List.all_nil,List.map_nil,true_and]
  constructor
  ·intro h; exact ⟨h,fun i k x y _ hx=>by simp at hx⟩
  ·intro h; exact h.1
 obtain ⟨lg',rt',hI,hM⟩:=tr_l60 t hl (fun (large1:Bool) (right1:Bool)=>if large1 then some 2 else if (!right1) then some 3 else some 0) (t.Entries.length+1) 0 _ _ (by omega) (by omega) h0
 refine (lim_eq (t.Entries.length+1) fun k hk=>hM k (by omega)).trans ?_
 unfold INV at hI
 rw [List.take_length] at hI
 unfold chkS
 cases hlg:lg' with
 | true =>
  rw [hlg] at hI
  have:=hI.1.symm
  simp only [Bool.or_eq_true,decide_eq_true_eq] at this
  rw [if_pos rfl,if_pos this]
 | false =>
  rw [hlg] at hI
  have h1:=hI.1.symm
  simp only [Bool.or_eq_false_iff,decide_eq_false_iff_not] at h1
  have h2:=hI.2 rfl
  rw [if_neg (by simp),if_neg (c:=50<t.Entries.length∨t.Entries.any big=true) (by rintro (h | h); exact h1.1 h; rw [h1.2] at h; cases h)]
  have hdoc:(docsB t.Entries=true)↔(t.Entries.all docok=true∧pairsOK (t.Entries.map pr)):=by
   unfold docsB
   rw [Bool.and_eq_true,docs_pairs]
  have hcl:((t.Entries.any fun e=>!cl e)=true)↔¬ (t.Entries.all cl=true):=by
   rw [List.any_eq_true,List.all_eq_true]
   constructor
   ·rintro ⟨e,he,hc⟩ hh; rw [hh e he] at hc; cases hc
   ·intro hh
    apply Classical.byContradiction
    intro hn
    apply hh
    intro e he
    cases hc:cl e with
    | true=>rfl
    | false=>exact absurd ⟨e,he,by rw [hc]; rfl⟩ hn
  have hsplit:(t.Entries.all (fun e=>cl e&&docok e)=true)↔(t.Entries.all cl=true∧t.Entries.all docok=true):=by
   simp only [List.all_eq_true,Bool.and_eq_true]
   exact ⟨fun h=>⟨fun e he=>(h e he).1,fun e he=>(h e he).2⟩,fun h e he=>⟨h.1 e he,h.2 e he⟩⟩
  rw [hsplit] at h2
  cases hr:rt' with
  | true =>
   obtain ⟨a1,⟨a2,a3⟩,a4⟩:=h2.1 hr
   rw [if_neg (c:=(!true)=true) (by simp),if_neg ?_]
   rintro (h | h | h)
   ·omega
   ·exact hcl.1 h a2
   ·rw [hdoc.2 ⟨a3,a4⟩] at h; cases h
  | false =>
   rw [if_pos (c:=(!false)=true) (by simp),if_pos ?_]
   apply Classical.byContradiction
   intro hn
   have b1:¬ (t.At<0∨(t.Entries.length:Int)≤t.At):=fun h=>hn (.inl h)
   have b2:t.Entries.all cl=true:=by
    cases hc:t.Entries.all cl with
    | true=>rfl
    | false=>exact absurd (.inr (.inl (hcl.2 (by rw [hc]; simp)))) hn
   have b3:docsB t.Entries=true:=by
    cases hc:docsB t.Entries with
    | true=>rfl
    | false=>exact absurd (.inr (.inr hc)) hn
   obtain ⟨b4,b5⟩:=hdoc.1 b3
   have:=h2.2 ⟨by omega,⟨b2,b4⟩,b5⟩
   rw [hr] at this
   cases this
end Go.Proofs.YtngonchkhmjenaaGreatDoorBv
/- Where one goes: the program's way is the document's. No program is in sight. -/
namespace Go.Proofs.YtngonchkhmjenaaGreatDoorBv
open Go
set_option linter.unusedSimpArgs false
set_option linter.unusedVariables false
structure Right (t:TJTrail):Prop where
 len:t.Entries.length≤50
 at0:0≤t.At
 at1:t.At<t.Entries.length
 cln:∀ e,e ∈ t.Entries→cl e=true
 doc:∀ e,e ∈ t.Entries→0≤e.Doc∧e.Doc≤1000000
theorem chk_zero {t:TJTrail}(h:chkS t=0):Right t:=by
 unfold chkS at h
 split at h
 ·cases h
 ·rename_i h1
  split at h
  ·cases h
  ·rename_i h2
   have hd:docsB t.Entries=true:=by
    cases hc:docsB t.Entries with
    | true=>rfl
    | false=>exact absurd (.inr (.inr hc)) h2
   unfold docsB at hd
   rw [Bool.and_eq_true,List.all_eq_true] at hd
   refine ⟨?_,?_,?_,fun e he=>?_,fun e he=>?_⟩
   ·apply Classical.byContradiction; intro hh; exact h1 (.inl (by omega))
   ·apply Classical.byContradiction; intro hh; exact h2 (.inl (by omega))
   ·apply Classical.byContradiction; intro hh; exact h2 (.inl (by omega))
   ·cases hc:cl e with
    | true=>rfl
    | false=>exact absurd (.inr (.inl (List.any_eq_true.2 ⟨e,he,by rw [hc]; rfl⟩))) h2
   ·have:=hd.1 e he
    unfold docok at this
    simpa using this
theorem here_eq {t:TJTrail}{e:TJEntry}(h:at? t.Entries t.At=some e):Zn t=some e:=by
 unfold Zn
 rw [h]; rfl
theorem resolved_eq (t:TJTrail) (ref:List UInt8) (h:chkS t=0) {e:TJEntry}(he:at? t.Entries t.At=some e):Z1t t ref=some (resS e.Url ref):=by
 unfold Z1t
 rw [check_eq,h,Option.bind_some,if_neg (by simp),here_eq he,Option.bind_some,(resolve_eq _ _).1,Option.bind_some]
theorem resolved_bad (t:TJTrail) (ref:List UInt8) (h:chkS t≠0):Z1t t ref=some ([],chkS t):=by
 unfold Z1t
 rw [check_eq,Option.bind_some,if_pos (by simpa using h)]
theorem clone_eq (l:List TJEntry) (h:l.length≤3000000000000):Z1d l=some l:=by
 unfold Z1d
 rw [appq (by rw [List.length_nil]; omega),Option.bind_some,List.nil_append]
noncomputable def behS (t:TJTrail) (e:TJEntry):TJTrail :=
 let l:=t.Entries.take (t.At.toNat+1) ++ [e]
 if 50<l.length then ⟨l.drop 1,(l.drop 1).length - 1⟩ else ⟨l,l.length - 1⟩
theorem behind_eq {t:TJTrail}(h:Right t) (e:TJEntry):Z39 t e=some (behS t e):=by
 have h1:=h.len; have h2:=h.at0; have h3:=h.at1
 obtain ⟨a,ha⟩:∃ a,a=t.At.toNat:=⟨_,rfl⟩
 have hta:t.At=(a:Int):=by omega
 unfold Z39 behS
 rw [hta,wi_id (by omega) (by omega),show (a:Int)+1=((a+1:Nat):Int) by omega,sub_take (by omega),Option.bind_some,clone_eq _ (by rw [List.length_take]; omega),Option.bind_some,appq (by rw [List.length_take]; simp; omega),Option.bind_some]
 have hL:(t.Entries.take (a+1) ++ [e]).length=a+2:=by rw [List.length_append,List.length_take]; simp; omega
 simp only [Int.toNat_natCast]
 generalize t.Entries.take (a+1) ++ [e]=l at hL ⊢
 have hj:∀ m:List TJEntry,m.length≤100→Z38 m=some ⟨m,(m.length:Int) - 1⟩:=by
  intro m hm
  unfold Z38
  rw [clone_eq _ (by omega),Option.bind_some,wi_id (by omega) (by omega)]
 by_cases h5:50<l.length
 ·rw [if_pos (by simp only [decide_eq_true_eq]; omega),if_pos h5,show sub? l 1 (l.length:Int)=some (l.drop 1) from sub_drop (a:=1) (by omega),Option.bind_some,hj _ (by rw [List.length_drop]; omega)]
 ·rw [if_neg (by simp only [decide_eq_true_eq]; omega),if_neg h5,hj _ (by omega)]
theorem gone_j3 {t:TJTrail}(h:Right t) (how:Int) (r:List UInt8×Int) (x1:List UInt8) (x2:Int) :
  Z26 t how r x1 x2=some (if how=3 then ⟨t.Entries.set t.At.toNat ⟨r.1,x1,x2⟩,t.At⟩ else behS t ⟨r.1,x1,x2⟩,0):=by
 have h1:=h.len; have h2:=h.at0; have h3:=h.at1
 obtain ⟨a,ha⟩:∃ a,a=t.At.toNat:=⟨_,rfl⟩
 have hta:t.At=(a:Int):=by omega
 unfold Z26
 rw [clone_eq _ (by omega),Option.bind_some]
 by_cases h33:how=3
 ·rw [if_pos (by simpa using h33),if_pos h33,hta,at_some (show a<t.Entries.length by omega),Option.bind_some]
 ·rw [if_neg (by simpa using h33),if_neg h33]
  unfold behS
  rw [hta,wi_id (by omega) (by omega),show (a:Int)+1=((a+1:Nat):Int) by omega,sub_take (by omega),Option.bind_some,appq (by rw [List.length_take]; simp; omega),Option.bind_some]
  generalize hE:(⟨r.1,x1,x2⟩:TJEntry)=e
  have hL:(t.Entries.take (a+1) ++ [e]).length=a+2:=by rw [List.length_append,List.length_take]; simp; omega
  simp only [Int.toNat_natCast]
  generalize t.Entries.take (a+1) ++ [e]=l at hL ⊢
  have hj:∀ m:List TJEntry,m.length≤100→Z3r m=some (⟨m,(m.length:Int) - 1⟩,0):=by
   intro m hm
   unfold Z3r
   rw [wi_id (by omega) (by omega)]
  by_cases h5:50<l.length
  ·rw [if_pos (by simp only [decide_eq_true_eq]; omega),if_pos h5,show sub? l 1 (l.length:Int)=some (l.drop 1) from sub_drop (a:=1) (by omega),Option.bind_some,hj _ (by rw [List.length_drop]; omega)]
  ·rw [if_neg (by simp only [decide_eq_true_eq]; omega),if_neg h5,hj _ (by omega)]
/-! ### the greatest document -/
def mxD (l:List TJEntry) (m:Int):Int:=l.foldl (fun m e=>if e.Doc > m then e.Doc else m) m
theorem mxD_range:∀(l:List TJEntry) (m:Int),(∀ e,e ∈ l→0≤e.Doc∧e.Doc≤1000000)→-1≤m→m≤1000000→-1≤mxD l m∧mxD l m≤1000000
 | [],m,_,h1,h2=>⟨h1,h2⟩
 | e::r,m,h,h1,h2=>by
  have he:=h e (List.mem_cons_self ..)
  unfold mxD
  rw [List.foldl_cons]
  refine mxD_range r _ (fun x hx=>h x (List.mem_cons_of_mem _ hx)) ?_ ?_
  ·split <;> omega
  ·split <;> omega
theorem load_l2 (t:TJTrail) (ht:Right t) (r:List UInt8×Int) (K:Int→Option (TJTrail×Int)):∀(N i:Nat) (m:Int),t.Entries.length - i<N→i≤t.Entries.length→-1≤m→m≤1000000 →
  Z11 t r K N (m+1) (i:Int)=K (mxD (t.Entries.drop i) m+1)
 | 0,i,m,hN,hi,_,_=>by omega
 | N+1,i,m,hN,hi,h1,h2=>by
  have hlen:=ht.len
  rw [Z11]
  by_cases h:i<t.Entries.length
  ·have hd:=ht.doc t.Entries[i] (List.getElem_mem h)
   rw [if_pos (by simp only [decide_eq_true_eq]; omega),at_some h,Option.bind_some,wi_id (n:=(i:Int)+1) (by omega) (by omega),wi_id (n:=t.Entries[i].Doc+1) (by omega) (by omega),show (i:Int)+1=((i+1:Nat):Int) by omega,List.drop_eq_getElem_cons h]
   have e1:mx (m+1) (t.Entries[i].Doc+1)=(if t.Entries[i].Doc > m then t.Entries[i].Doc else m)+1:=by
    unfold mx; split <;> split <;> omega
   rw [e1,load_l2 t ht r K N (i+1) _ (by omega) (by omega) (by split <;> omega) (by split <;> omega)]
   unfold mxD
   rw [List.foldl_cons]
  ·rw [if_neg (by simp only [decide_eq_true_eq]; omega),List.drop_of_length_le (by omega)]
   rfl
theorem gone_l2 (t:TJTrail) (ht:Right t) (how:Int) (r:List UInt8×Int) (K:Int→Option (TJTrail×Int)):∀(N i:Nat) (m:Int),t.Entries.length - i<N→i≤t.Entries.length →
  Zr t how r K N m (i:Int)=K (mxD (t.Entries.drop i) m)
 | 0,i,m,hN,hi=>by omega
 | N+1,i,m,hN,hi=>by
  have hlen:=ht.len
  rw [Zr]
  by_cases h:i<t.Entries.length
  ·rw [if_pos (by simp only [decide_eq_true_eq]; omega),at_some h,Option.bind_some,wi_id (n:=(i:Int)+1) (by omega) (by omega),show (i:Int)+1=((i+1:Nat):Int) by omega,List.drop_eq_getElem_cons h]
   have e1:mx m t.Entries[i].Doc=(if t.Entries[i].Doc > m then t.Entries[i].Doc else m):=rfl
   rw [e1,gone_l2 t ht how r K N (i+1) _ (by omega) (by omega)]
   unfold mxD
   rw [List.foldl_cons]
  ·rw [if_neg (by simp only [decide_eq_true_eq]; omega),List.drop_of_length_le (by omega)]
   rfl
theorem bare_eq (s:List UInt8) (h:s.length≤1000):Z1u s=some (upTo [35] s):=by
 unfold Z1u
 show (cut? s [35]).bind _=_
 unfold cut?
 rw [if_pos (by omega),Option.bind_some,cut_eq]
theorem parted35 (s:List UInt8) (h:s.length≤1000):Z8 s [35]=some (upTo [35] s,from' [35] s):=parted_eq s [35] (by omega) (by decide)
theorem load_gone (t:TJTrail) (ref state:List UInt8) (hl:t.Entries.length≤140737488355328):∃ x,Z4o t ref=some x∧Zs t 1 ref state=some x:=by
 unfold Z4o Zs
 rw [right_eq t hl,Option.bind_some]
 by_cases hc:chkS t=0
 ·have ht:=chk_zero hc
  have h1:=ht.len; have h2:=ht.at0; have h3:=ht.at1
  obtain ⟨e,he⟩:∃ e,at? t.Entries t.At=some e:=by
   rw [at_of h2,List.getElem?_eq_getElem (show t.At.toNat<t.Entries.length by omega)]; exact ⟨_,rfl⟩
  have hem:e ∈ t.Entries:=by rw [at_of h2] at he; exact List.mem_of_getElem? he
  rw [resolved_eq t ref hc he,hc,Option.bind_some,if_neg (c:=(!decide ((0:Int)=0))=true) (by simp),he,Option.bind_some,(resolve_eq e.Url ref).2,Option.bind_some]
  by_cases hr:(resS e.Url ref).2=0
  ·have hs1:=resolve_short hr
   have hs2:=cl_short (ht.cln e hem)
   obtain ⟨b,hb⟩:∃ b,Z2j ref [35]=some b:=⟨_,con_one ref 35⟩
   rw [if_neg (by simp [hr]),if_neg (by simp [hr]),here_eq he,Option.bind_some,hb,Option.bind_some,if_pos (c:=decide ((1:Int)=1)=true) (by simp),parted35 _ (by omega),Option.bind_some,parted35 _ (by omega),Option.bind_some]
   simp only [Option.bind_some]
   have hbare:((Z1u (resS e.Url ref).1).bind fun r_4=>(Z1u e.Url).bind fun r_6=>Z1v t (resS e.Url ref) e (!decide (r_4=r_6)))=Z1v t (resS e.Url ref) e (!decide (upTo [35] (resS e.Url ref).1=upTo [35] e.Url)):=by
    rw [bare_eq _ (by omega),bare_eq _ (by omega)]; rfl
   rw [hbare]
   have hj:∀ v,∃ x,Z1v t (resS e.Url ref) e v=some x∧Z27 t 1 (resS e.Url ref) e v=some x:=by
    intro v
    have hj3:∀ d:Int,d≤1000000→Z1e t (resS e.Url ref) d=some (behS t ⟨(resS e.Url ref).1,[],d⟩,0):=by
     intro d hd
     unfold Z1e
     rw [if_neg (by simp only [decide_eq_true_eq]; omega),behind_eq ht,Option.bind_some]
    unfold Z1v Z27
    cases v with
    | false =>
     have hd:=(ht.doc e hem).2
     rw [if_neg (by simp),if_neg (by simp),hj3 _ hd,gone_j3 ht,if_neg (by decide)]
     exact ⟨_,rfl,rfl⟩
    | true =>
     have hm:=mxD_range t.Entries (-1) ht.doc (by omega) (by omega)
     rw [if_pos rfl,if_pos rfl]
     have e1:lim (fun kk=>Z11 t (resS e.Url ref) (fun doc2=>Z1e t (resS e.Url ref) doc2) kk 0 0)=Z1e t (resS e.Url ref) (mxD t.Entries (-1)+1):=by
      refine lim_eq (t.Entries.length+1) fun k hk=>?_
      exact load_l2 t ht _ _ k 0 (-1) (by omega) (by omega) (by omega) (by omega)
     rw [e1]
     have e2:∀ K,lim (fun kk=>Zr t 1 (resS e.Url ref) K kk (-1) 0)=K (mxD t.Entries (-1)):=by
      intro K
      refine lim_eq (t.Entries.length+1) fun k hk=>?_
      exact gone_l2 t ht 1 _ _ k 0 (-1) (by omega) (by omega)
     rw [e2,wi_id (by omega) (by omega)]
     by_cases hbig:1000000<mxD t.Entries (-1)+1
     ·unfold Z1e
      rw [if_pos (by simpa using hbig),if_pos (by simpa using hbig)]
      exact ⟨_,rfl,rfl⟩
     ·rw [hj3 _ (by omega),if_neg (by simpa using hbig),gone_j3 ht,if_neg (by decide)]
      exact ⟨_,rfl,rfl⟩
   by_cases hu:upTo [35] (resS e.Url ref).1=upTo [35] e.Url
   ·rw [if_neg (c:=(!decide (upTo [35] (resS e.Url ref).1=upTo [35] e.Url))=true) (by simpa using hu),hu]
    cases b with
    | true=>rw [if_neg (by simp)]; simpa using hj false
    | false=>rw [if_pos (by simp)]; simpa using hj true
   ·rw [if_pos (c:=(!decide (upTo [35] (resS e.Url ref).1=upTo [35] e.Url))=true) (by simpa using hu),decide_eq_false hu]
    cases b with
    | true=>rw [if_neg (by simp)]; exact hj true
    | false=>rw [if_pos (by simp)]; exact hj true
  ·rw [if_pos (by simpa using hr),if_pos (by simpa using hr)]
   exact ⟨_,rfl,rfl⟩
 ·rw [resolved_bad t ref hc,Option.bind_some,if_pos (by simpa using hc),if_pos (by simpa using hc)]
  exact ⟨_,rfl,rfl⟩
theorem own_gone (t:TJTrail) (ref state:List UInt8) (how:Int) (hh:how=2∨how=3) (hl:t.Entries.length≤140737488355328) :
  ∃ y,Z3a t ref state=some y∧Zs t how ref state=some (if y.2=0 then (if how=3 then ⟨t.Entries.set t.At.toNat y.1,t.At⟩ else behS t y.1) else ⟨[],0⟩,y.2)∧(y.2=0→chkS t=0):=by
 unfold Z3a Zs
 rw [right_eq t hl,Option.bind_some]
 by_cases hc:chkS t=0
 ·have ht:=chk_zero hc
  have h1:=ht.len; have h2:=ht.at0; have h3:=ht.at1
  obtain ⟨e,he⟩:∃ e,at? t.Entries t.At=some e:=by
   rw [at_of h2,List.getElem?_eq_getElem (show t.At.toNat<t.Entries.length by omega)]; exact ⟨_,rfl⟩
  have hem:e ∈ t.Entries:=by rw [at_of h2] at he; exact List.mem_of_getElem? he
  rw [resolved_eq t ref hc he,hc,Option.bind_some,if_neg (c:=(!decide ((0:Int)=0))=true) (by simp),he,Option.bind_some,(resolve_eq e.Url ref).2,Option.bind_some]
  by_cases hr:(resS e.Url ref).2=0
  ·rw [if_neg (c:=(!decide ((resS e.Url ref).2=0))=true) (by simp [hr]),if_neg (c:=(!decide ((resS e.Url ref).2=0))=true) (by simp [hr]),if_neg (c:=decide (how=1)=true) (by rcases hh with h | h <;> simp [h]),addressed_eq,Option.bind_some,addressed_eq,Option.bind_some]
   by_cases hst:2000<state.length
   ·rw [if_pos (by simp only [decide_eq_true_eq]; omega),if_pos (by simp only [decide_eq_true_eq]; omega)]
    exact ⟨_,rfl,by simp,by simp⟩
   ·rw [if_neg (by simp only [decide_eq_true_eq]; omega),if_neg (by simp only [decide_eq_true_eq]; omega)]
    simp only [origin_eq,origR_eq,here_eq he,Option.bind_some]
    have hob:=orig_bad (s:=(resS e.Url ref).1) (cl_addr (ht.cln e hem))
    by_cases ho:origP (resS e.Url ref).1=origP e.Url
    ·rw [if_neg (by simpa using ho),if_neg (by simpa using hob.1 ho),gone_j3 ht]
     exact ⟨_,rfl,by simp,by simp⟩
    ·rw [if_pos (by simpa using ho),if_pos (by simpa using fun hx=>ho (hob.2 hx))]
     exact ⟨_,rfl,by simp,by simp⟩
  ·rw [if_pos (by simpa using hr),if_pos (by simpa using hr)]
   exact ⟨_,rfl,by simp [hr],by simp [hr]⟩
 ·rw [resolved_bad t ref hc,Option.bind_some,if_pos (by simpa using hc),if_pos (by simpa using hc)]
  exact ⟨_,rfl,by simp [hc],fun h=>h⟩
theorem push_gone (t:TJTrail) (ref state:List UInt8) (hl:t.Entries.length≤140737488355328):∃ x,Z4p t ref state=some x∧Zs t 2 ref state=some x:=by
 obtain ⟨y,h1,h2,h3⟩:=own_gone t ref state 2 (.inl rfl) hl
 unfold Z4p
 rw [h1,h2,Option.bind_some]
 by_cases hy:y.2=0
 ·rw [if_neg (by simpa using hy),behind_eq (chk_zero (h3 hy)),Option.bind_some,if_pos hy,if_neg (by decide),hy]
  exact ⟨_,rfl,rfl⟩
 ·rw [if_pos (by simpa using hy),if_neg hy]
  exact ⟨_,rfl,rfl⟩
theorem replace_gone (t:TJTrail) (ref state:List UInt8) (hl:t.Entries.length≤140737488355328):∃ x,Z4q t ref state=some x∧Zs t 3 ref state=some x:=by
 obtain ⟨y,h1,h2,h3⟩:=own_gone t ref state 3 (.inr rfl) hl
 unfold Z4q
 rw [h1,h2,Option.bind_some]
 by_cases hy:y.2=0
 ·have ht:=chk_zero (h3 hy)
  have q1:=ht.len; have q2:=ht.at0; have q3:=ht.at1
  rw [if_neg (by simpa using hy),clone_eq _ (by omega),Option.bind_some,at_of q2,List.getElem?_eq_getElem (show t.At.toNat<t.Entries.length by omega),Option.bind_some,if_pos hy,if_pos rfl,hy]
  exact ⟨_,rfl,rfl⟩
 ·rw [if_pos (by simpa using hy),if_neg hy]
  exact ⟨_,rfl,rfl⟩
end Go.Proofs.YtngonchkhmjenaaGreatDoorBv
/- The law of where one was, over plain values. No program is in sight. -/
namespace Go.Proofs.YtngonchkhmjenaaGreatDoorBv
open Go
set_option linter.unusedSimpArgs false
set_option linter.unusedVariables false
theorem eq_l0 (l:List TJEntry) (hl:l.length≤140737488355328) (K:Unit→Option Bool):∀(N i:Nat),l.length - i<N→i≤l.length→Z1k l l K N (i:Int)=K ()
 | 0,i,hN,hi=>by omega
 | N+1,i,hN,hi=>by
  rw [Z1k]
  by_cases h:i<l.length
  ·rw [if_pos (by simp only [decide_eq_true_eq]; omega),at_some h,Option.bind_some,Option.bind_some,letIn_eq,if_neg (by simp),wi_id (by omega) (by omega),show (i:Int)+1=((i+1:Nat):Int) by omega]
   exact eq_l0 l hl K N (i+1) (by omega) (by omega)
  ·rw [if_neg (by simp only [decide_eq_true_eq]; omega)]
theorem same_trail (t:TJTrail) (hl:t.Entries.length≤140737488355328):Z25 t t=some true:=by
 unfold Z25 Z61
 rw [if_pos (by simp),if_neg (by simp),lim_eq (t.Entries.length+1) fun k hk=>eq_l0 _ hl _ k 0 (by omega) (by omega),Option.bind_some]
 rfl
theorem load_len {t:TJTrail}{ref state:List UInt8}{how:Int}{x:TJTrail×Int}(hl:t.Entries.length≤140737488355328) (h:Zs t how ref state=some x):x.1.Entries.length≤140737488355328:=by
 have beh:∀ e,(behS t e).Entries.length≤t.Entries.length+1:=by
  intro e
  unfold behS
  simp only
  split
  ·simp only [List.length_drop,List.length_append,List.length_take,List.length_cons,List.length_nil]; omega
  ·simp only [List.length_append,List.length_take,List.length_cons,List.length_nil]; omega
 unfold Zs at h
 rw [right_eq t hl,Option.bind_some] at h
 by_cases hc:chkS t=0
 ·have ht:=chk_zero hc
  have h50:=ht.len
  have j3:∀(r:List UInt8×Int) (x1:List UInt8) (x2:Int),Z26 t how r x1 x2=some x→x.1.Entries.length≤140737488355328:=by
   intro r x1 x2 hj
   rw [gone_j3 ht] at hj
   cases hj
   simp only
   split
   ·simp only [List.length_set]; omega
   ·have:=beh ⟨r.1,x1,x2⟩; omega
  rw [if_neg (by simp [hc])] at h
  obtain ⟨e,_,h⟩:=Option.bind_eq_some_iff.1 h
  obtain ⟨r,_,h⟩:=Option.bind_eq_some_iff.1 h
  split at h
  ·cases h; simp
  ·split at h
   ·have j5:∀ v,Z27 t how r e v=some x→x.1.Entries.length≤140737488355328:=by
     intro v hj
     unfold Z27 at hj
     split at hj
     ·have e2:∀ K,lim (fun kk=>Zr t how r K kk (-1) 0)=K (mxD t.Entries (-1)):=by
       intro K
       refine lim_eq (t.Entries.length+1) fun k hk=>?_
       exact gone_l2 t ht how _ _ k 0 (-1) (by omega) (by omega)
      rw [e2] at hj
      split at hj
      ·cases hj; simp
      ·exact j3 _ _ _ hj
     ·exact j3 _ _ _ hj
    obtain ⟨r6,_,h⟩:=Option.bind_eq_some_iff.1 h
    obtain ⟨r7,_,h⟩:=Option.bind_eq_some_iff.1 h
    split at h
    ·exact j5 _ h
    ·obtain ⟨r8,_,h⟩:=Option.bind_eq_some_iff.1 h
     exact j5 _ h
   ·obtain ⟨r9,_,h⟩:=Option.bind_eq_some_iff.1 h
    obtain ⟨r10,_,h⟩:=Option.bind_eq_some_iff.1 h
    split at h
    ·cases h; simp
    ·obtain ⟨r11,_,h⟩:=Option.bind_eq_some_iff.1 h
     obtain ⟨r12,_,h⟩:=Option.bind_eq_some_iff.1 h
     split at h
     ·cases h; simp
     ·exact j3 _ _ _ h
 ·rw [if_pos (by simpa using hc)] at h
  cases h
  simp
theorem start_eq (s:List UInt8):Z4c s=some (⟨if (resS s s).2=0 then [⟨(resS s s).1,[],0⟩] else [],0⟩,(resS s s).2):=by
 unfold Z4c
 rw [(resolve_eq s s).1,Option.bind_some]
 by_cases h:(resS s s).2=0
 ·rw [if_neg (by simpa using h),if_pos h,h]
 ·rw [if_pos (by simpa using h),if_neg h]
theorem go_say (t:TJTrail) (n:Int) (hl:t.Entries.length≤140737488355328) (hA : -9223372036854775808≤t.At∧t.At≤9223372036854775807) (hn : -9223372036854775808≤n∧n≤9223372036854775807) (w0:List TJEntry) (w1:Int) :
  ∃ r,Z4r t n=some r∧(if ((decide (chkS t=0))&&(!(Z1 n (wi (0 - t.At)) (wi ((wi ((t.Entries.length:Int) - 1)) - t.At))))) then Zt r t n w0 w1 5 else Zt r t n w0 w1 (chkS t))=some true:=by
 have hnil:=same_trail ⟨[],0⟩ (by simp)
 unfold Z4r
 rw [check_eq,Option.bind_some]
 by_cases hc:chkS t=0
 ·have ht:=chk_zero hc
  have q1:=ht.len; have q2:=ht.at0; have q3:=ht.at1
  rw [if_neg (by simp [hc]),btw_eq,wi_id (n:=0 - t.At) (by omega) (by omega),wi_id (n:=(t.Entries.length:Int) - t.At) (by omega) (by omega),wi_id (n:=(t.Entries.length:Int) - 1) (by omega) (by omega),wi_id (n:=(t.Entries.length:Int) - 1 - t.At) (by omega) (by omega),hc]
  by_cases hr:n<0 - t.At∨(t.Entries.length:Int) - t.At≤n
  ·rw [if_pos (by simpa using hr)]
   refine ⟨_,rfl,?_⟩
   rw [if_pos ?_]
   ·unfold Zt
    rw [if_pos (by simp),hnil,Option.bind_some]
    rfl
   ·simp only [decide_true,Bool.true_and,Bool.not_eq_true',Bool.and_eq_false_iff,decide_eq_false_iff_not]
    omega
  ·rw [if_neg (by simpa using hr),clone_eq _ (by omega),Option.bind_some,wi_id (n:=t.At+n) (by omega) (by omega)]
   obtain ⟨e,he⟩:∃ e,at? t.Entries t.At=some e:=by
    rw [at_of q2,List.getElem?_eq_getElem (show t.At.toNat<t.Entries.length by omega)]; exact ⟨_,rfl⟩
   obtain ⟨e2,he2⟩:∃ e,at? t.Entries (t.At+n)=some e:=by
    rw [at_of (by omega),List.getElem?_eq_getElem (show (t.At+n).toNat<t.Entries.length by omega)]; exact ⟨_,rfl⟩
   rw [here_eq (t:=⟨t.Entries,t.At+n⟩) he2,Option.bind_some,here_eq he,Option.bind_some]
   refine ⟨_,rfl,?_⟩
   rw [if_neg ?_]
   ·unfold Zt
    rw [if_neg (by simp),wi_id (n:=t.At+n) (by omega) (by omega),same_trail ⟨t.Entries,t.At+n⟩ hl,Option.bind_some,if_pos rfl,he2,Option.bind_some,he,Option.bind_some]
    unfold Z58
    simp
   ·simp only [decide_true,Bool.true_and,Bool.not_eq_true',Bool.and_eq_false_iff,decide_eq_false_iff_not]
    omega
 ·rw [if_pos (by simpa using hc)]
  refine ⟨_,rfl,?_⟩
  rw [if_neg (by simp [hc])]
  unfold Zt
  rw [if_pos (by simpa using hc),hnil,Option.bind_some]
  simp
theorem pureTrailSays:PureTrailSays:=by
 intro t ref state n ht href hstate hn
 have hl:t.Entries.length≤140737488355328:=by
  have:=ht.1.1
  unfold reachBytes at this
  omega
 have hA:=ok_i64 ht.2
 have hn' := ok_i64 hn
 obtain ⟨x1,a1,b1⟩:=load_gone t ref state hl
 obtain ⟨x2,a2,b2⟩:=push_gone t ref state hl
 obtain ⟨x3,a3,b3⟩:=replace_gone t ref state hl
 have l1:=load_len hl b1
 have l2:=load_len hl b2
 have l3:=load_len hl b3
 obtain ⟨g,hg,_⟩:=go_say t n hl hA hn' [] 0
 have hgo:∀ w0 w1,(if ((decide (chkS t=0))&&(!(Z1 n (wi (0 - t.At)) (wi ((wi ((t.Entries.length:Int) - 1)) - t.At))))) then Zt g t n w0 w1 5 else Zt g t n w0 w1 (chkS t))=some true:=by
  intro w0 w1
  obtain ⟨g',hg',h⟩:=go_say t n hl hA hn' w0 w1
  rw [hg] at hg'
  cases hg'
  exact h
 unfold Z64
 rw [start_eq,a1,a2,a3,hg,(resolve_eq ref ref).2,check_eq,right_eq t hl]
 simp only [Option.bind_some]
 rw [if_neg (by simp)]
 have hj1:∀ w,w=(if (resS ref ref).2=0 then [(⟨(resS ref ref).1,[],0⟩:TJEntry)] else [])→Z3t (⟨if (resS ref ref).2=0 then [⟨(resS ref ref).1,[],0⟩] else [],0⟩,(resS ref ref).2) x1 x2 x3 t ref state n g w=some true:=by
  intro w hw
  unfold Z3t
  rw [hw,same_trail _ (by split <;> simp),Option.bind_some,if_neg (by simp)]
  refine lim_eq 4 fun k hk=>?_
  obtain ⟨m,rfl⟩:∃ m,k=m+4:=⟨k - 4,by omega⟩
  have v0:at? [x1.1,x2.1,x3.1] 0=some x1.1:=rfl
  have v1:at? [x1.1,x2.1,x3.1] 1=some x2.1:=rfl
  have v2:at? [x1.1,x2.1,x3.1] 2=some x3.1:=rfl
  have u0:at? [x1.2,x2.2,x3.2] 0=some x1.2:=rfl
  have u1:at? [x1.2,x2.2,x3.2] 1=some x2.2:=rfl
  have u2:at? [x1.2,x2.2,x3.2] 2=some x3.2:=rfl
  rw [Zh,if_pos (by simp),v0,Option.bind_some,show wi (0+1)=1 from rfl,b1,Option.bind_some,same_trail _ l1,Option.bind_some,if_neg (by simp),u0,Option.bind_some]
  unfold Z2v
  rw [if_neg (by simp),show wi (0+1)=1 from rfl,Zh,if_pos (by simp),v1,Option.bind_some,show wi (1+1)=2 from rfl,b2,Option.bind_some,same_trail _ l2,Option.bind_some,if_neg (by simp),u1,Option.bind_some]
  unfold Z2v
  rw [if_neg (by simp),show wi (1+1)=2 from rfl,Zh,if_pos (by simp),v2,Option.bind_some,show wi (2+1)=3 from rfl,b3,Option.bind_some,same_trail _ l3,Option.bind_some,if_neg (by simp),u2,Option.bind_some]
  unfold Z2v
  rw [if_neg (by simp),show wi (2+1)=3 from rfl,Zh,if_neg (by simp),right_eq t hl,Option.bind_some]
  exact hgo _ _
 by_cases hr:(resS ref ref).2=0
 ·rw [if_pos (by simpa using hr)]
  exact hj1 _ (by rw [if_pos hr])
 ·rw [if_neg (by simpa using hr)]
  exact hj1 _ (by rw [if_neg hr])
end Go.Proofs.YtngonchkhmjenaaGreatDoorBv
-- squeezed
