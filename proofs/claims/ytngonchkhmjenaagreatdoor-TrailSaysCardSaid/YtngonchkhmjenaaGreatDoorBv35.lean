/- The calculus: maps told by plain lists of their entries. It proves nothing of any program. -/
import Derived.Test.YtngonchkhmjenaaGreatDoorBv22
namespace Go.Proofs.YtngonchkhmjenaaGreatDoorBv
open Go
set_option linter.unusedVariables false
set_option linter.unusedSimpArgs false
def mget {κ ν:Type} [DecidableEq κ]:List (κ×ν)→κ→Option ν
 | [],_=>none
 | p::r,k=>if k=p.1 then some p.2 else mget r k
def mset {κ ν:Type} [DecidableEq κ]:List (κ×ν)→κ→ν→List (κ×ν)
 | [],k,v=>[(k,v)]
 | p::r,k,v=>if k=p.1 then (k,v)::r else p::mset r k v
def mapB {κ ν:Type}(m:MK) (ek:κ→Cel) (ev:ν→AV) (l:List (κ×ν)):Option Blk:=some (.mapb m (l.map fun p=>(ek p.1,ev p.2)))
theorem findC_map {κ ν:Type} [DecidableEq κ] {ek:κ→Cel}{ev:ν→AV}(hk:∀ a b,celEq (ek a) (ek b)=decide (a=b)) (k:κ):∀ l:List (κ×ν),findC (ek k) (l.map fun p=>(ek p.1,ev p.2))=(mget l k).map ev
 | []=>rfl
 | p::r=>by
  simp only [List.map_cons,findC,mget,hk,decide_eq_true_eq]
  by_cases h:k=p.1
  ·rw [if_pos h,if_pos h]; rfl
  ·rw [if_neg h,if_neg h]; exact findC_map hk k r
theorem putC_map {κ ν:Type} [DecidableEq κ] {ek:κ→Cel}{ev:ν→AV}(hk:∀ a b,celEq (ek a) (ek b)=decide (a=b)) (k:κ) (v:ν):∀ l:List (κ×ν),putC (ek k) (ev v) (l.map fun p=>(ek p.1,ev p.2))=(mset l k v).map fun p=>(ek p.1,ev p.2)
 | []=>rfl
 | p::r=>by
  simp only [List.map_cons,putC,mset,hk,decide_eq_true_eq]
  by_cases h:k=p.1
  ·rw [if_pos h,if_pos h]; rfl
  ·rw [if_neg h,if_neg h,putC_map hk k v r]; rfl
section
variable {Γ : Glob} {env : Nat → Option AV} {h : Heap} {n : Nat} {κ ν : Type} [DecidableEq κ] {m : MK} {ek : κ → Cel} {ev : ν → AV} {x k v : Arg} {b : Nat} {l : List (κ × ν)} {key : κ} {z val : ν} {zv : AV}
theorem s_mlook (hk:∀ a b,celEq (ek a) (ek b)=decide (a=b)) (hz:zv=ev z) (hx:x.get Γ env=some (.c (.mp b))) (hkey:k.get Γ env=some (.c (ek key))) (hok:m.ok (ek key)=true) (hb:h b=mapB m ek ev l) :
  step1 Γ ⟨env,h,n⟩ (.mlook m zv false x k)=some (ev ((mget l key).getD z)):=by
 simp only [step1,hx,hkey,hb,mapB,hok,and_self,if_true,findC_map hk]
 cases mget l key with
 | none=>simp [lookV,hz]
 | some v=>simp [lookV]
theorem s_mput (hk:∀ a b,celEq (ek a) (ek b)=decide (a=b)) (hf:(ev val).freeV=true) (hx:x.get Γ env=some (.c (.mp b))) (hkey:k.get Γ env=some (.c (ek key))) (hv:v.get Γ env=some (ev val)) (hok:m.ok (ek key)=true) (hb:h b=mapB m ek ev l) :
  step2 Γ ⟨env,h,n⟩ (.mput m x k v)=some (none,upd h b (mapB m ek ev (mset l key val)),n):=by
 simp only [step2,hx,hkey,hv,hb,mapB,hok,hf,and_self,if_true,putC_map hk]
end
/-! ### make of a slice -/
section
variable {P : Program} {Γ : Glob} {k0 : Nat} {K : St → Prop} {rest : List (AOper × Nat × Nat)} {env : Nat → Option AV} {h : Heap} {n : Nat}
end
/-! ### an own list that is cut at its end -/
def cutC (z:Bool) (b sz len m:Nat):Cel:=bif z then .ro true sz [] else .own b sz 0 len m
abbrev cutV (z:Bool) (b sz len m:Nat):AV:=.c (cutC z b sz len m)
theorem cut_nil {α:Type}{z:Bool}{xs r:List α}{k:Int}(hz:z=true→xs=[]) (hs:sub? xs 0 k=some r):z=true→r=[]:=by
 intro h
 obtain ⟨h0,h1,h2,rfl⟩:=sub_spec hs
 rw [hz h]
 simp
theorem cutP {α:Type}{e:α→List Cel}{xs r:List α}{k:Int}(hs:sub? xs 0 k=some r):∃ j,r.map e=(xs.map e).take j:=by
 obtain ⟨h0,h1,h2,rfl⟩:=sub_spec hs
 exact ⟨k.toNat,by simp⟩
theorem cut_le {α:Type}{xs r:List α}{k:Int}(hs:sub? xs 0 k=some r):r.length≤xs.length:=by
 obtain ⟨h0,h1,h2,rfl⟩:=sub_spec hs
 simp
 omega
theorem s_cutL {α:Type}{Γ:Glob}{env:Nat→Option AV}{h:Heap}{n b sz:Nat}{z:Bool}{x:Arg}{lo hi:Option Arg}{xs r:List α}{k:Int}(hx:x.get Γ env=some (lstV z b sz xs.length)) (hz:z=true→xs=[])
  (hlo:bnI Γ env 0 lo=some 0) (hhi:bnI Γ env xs.length hi=some k) (hs:sub? xs 0 k=some r):step1 Γ ⟨env,h,n⟩ (.slSl sz x lo hi none)=some (cutV z b sz r.length xs.length):=by
 obtain ⟨h0,h1,h2,rfl⟩:=sub_spec hs
 have hb:boundI Γ env xs.length xs.length hi=some k.toNat:=bound_of (Nat.le_refl _) hhi (by omega) h2
 have ha:boundI Γ env 0 k.toNat lo=some 0:=bound_of (hi:=k.toNat) (Nat.zero_le _) hlo (Int.le_refl 0) (by omega)
 have hl:((xs.take k.toNat).drop (0:Int).toNat).length=k.toNat:=by simp; omega
 rw [hl]
 cases z with
 | false =>
  have hx' : x.get Γ env=some (.c (.own b sz 0 xs.length xs.length)):=hx
  simp only [step1,hx',hb,ha,if_true,Nat.sub_zero,Nat.add_zero]
  rfl
 | true =>
  have hx' : x.get Γ env=some (.c (.ro true sz [])):=hx
  have e0:xs=[]:=hz rfl
  subst e0
  simp only [List.length_nil] at hb
  simp only [step1,hx',List.length_nil,hb,ha,decide_true,Bool.true_or,if_true,List.take_nil,List.drop_nil]
  rfl
theorem cut_ren {σ:Nat→Nat}{h h' : Heap}{n' b b' sz len m:Nat}{z:Bool}(hb:b' = σ b) (hn:b<n') (hl:len≤m):CelAs σ h h' n' (cutC z b' sz len m) (lstC z b sz len):=by
 cases z
 ·exact .own hb hn (Nat.le_refl _) hl
 ·exact .same rfl
theorem HeapAs.rowP {σ:Nat→Nat}{h h' : Heap}{n' : Nat}{H H' : Heap}{b sz:Nat}{z:Bool}{es es' : List (List Cel)}(hb:b<n') (hx:H (σ b)=lstB z sz es) (hp:∃ k,es' = es.take k) (hf:∀ e,e ∈ es→freeL e=true) (k:HeapAs σ h h' n' H H'):HeapAs σ h h' n' H (upd H' b (lstB z sz es')) :=
 .cons hb (fun y hy=>by
  obtain ⟨j,rfl⟩:=hp
  cases z
  ·cases hy
   exact ⟨_,hx,blkAs_take hf⟩
  ·cases hy) k
end Go.Proofs.YtngonchkhmjenaaGreatDoorBv
