/- The calculus: strings.Map at a function of the program's own that only reckons, by the shelf's contract. It proves nothing of any program. -/
import Derived.Test.YtngonchkhmjenaaGreatDoorBv30
import Derived.Shelf.Strings.MapGrows
namespace Go.Proofs.YtngonchkhmjenaaGreatDoorBv
open Go Go.RowKit Go.Proofs
set_option linter.unusedVariables false
set_option linter.unusedSimpArgs false
open Classical in
noncomputable def smap? (F:Int→Int) (s:List UInt8):Option (List UInt8):=if s.length<35184372088832∧∀ x:Nat,x≤1114111→-2147483648≤F x∧F x≤2147483647 then some (Lib.mapD F s) else none
theorem smap_some {F:Int→Int}{s:List UInt8}(h1:s.length<35184372088832) (h2:∀ x:Nat,x≤1114111→-2147483648≤F x∧F x≤2147483647):smap? F s=some (Lib.mapD F s):=by
 unfold smap?
 rw [if_pos ⟨h1,h2⟩]
def firstCels:List Cel:=(List.range 256).map fun c=>.val (.int .u8 (Lib.firstT c))
def accCels:List Cel:=(List.range 16).flatMap fun i=>[.val (.int .u8 (Lib.accLo i)),.val (.int .u8 (Lib.accHi i))]
theorem cell_of_glob {Γ:Glob}{E:Nat→Prop}{w:World}{μ κ:Nat→Nat}{h:Heap}{n:Nat}(H:HeapOK Γ E w μ κ h n) {g:Nat}{i:Nat}{v:Value}(hc:(Γ g)[i]? = some (.val v)):w.cell? ⟨g,i,none⟩=some v:=by
 obtain ⟨h1,_⟩:=H.glob g
 cases h1 with
 | rop f hs hcell hrel =>
  have e1:=hcell i _ hc
  have e2:=relC_vv (hrel i _ hc)
  rw [e2] at e1
  have e5:(⟨g,0,none⟩:Addr).add i=⟨g,i,none⟩:=by simp [Addr.add]; omega
  rwa [e5] at e1
theorem tabs_is {Γ:Glob}{E:Nat→Prop}{w:World}{μ κ:Nat→Nat}{h:Heap}{n:Nat}(H:HeapOK Γ E w μ κ h n) {g3 g4:Nat}(h3:Γ g3=firstCels) (h4:Γ g4=accCels):Lib.Utf8Tabs g3 g4 w:=by
 refine ⟨fun c hc=>cell_of_glob H ?_,fun i hi=>⟨cell_of_glob H ?_,cell_of_glob H ?_⟩⟩
 ·rw [h3]
  unfold firstCels
  rw [List.getElem?_map,List.getElem?_range hc]
  rfl
 ·rw [h4]
  have:∀ j:Fin 16,accCels[2 * j.val]? = some (.val (.int .u8 (Lib.accLo j.val))):=by
   intro ⟨j,hj⟩
   match j,hj with
   | 0,_ | 1,_ | 2,_ | 3,_ | 4,_ | 5,_ | 6,_ | 7,_ | 8,_ | 9,_ | 10,_ | 11,_ | 12,_ | 13,_ | 14,_ | 15,_=>rfl
   | n+16,h=>exact absurd h (by omega)
  exact this ⟨i,hi⟩
 ·rw [h4]
  have:∀ j:Fin 16,accCels[2 * j.val+1]? = some (.val (.int .u8 (Lib.accHi j.val))):=by
   intro ⟨j,hj⟩
   match j,hj with
   | 0,_ | 1,_ | 2,_ | 3,_ | 4,_ | 5,_ | 6,_ | 7,_ | 8,_ | 9,_ | 10,_ | 11,_ | 12,_ | 13,_ | 14,_ | 15,_=>rfl
   | n+16,h=>exact absurd h (by omega)
  exact this ⟨i,hi⟩
theorem map_ok {P:Program}{ρ:Shelf.Ren}{Γ:Glob}{g:Nat}{F:Int→Int}(L:Lays.n230 P ρ) (X:Builder.Extra P ρ) (eg:∀ args w,(callFunc g args).run P w = .ok (.enter g args) w)
  (h3:Γ (ρ.g 3)=firstCels) (h4:Γ (ρ.g 4)=accCels) (hg:∀ x:Int,CPure P Γ g [.c (.val (.int .i32 x))] (.c (.val (.int .i32 (F x))))) {s r:List UInt8}(h:smap? F s=some r) :
  CPure P Γ (ρ.f 230) [.c (.fn (.func g) [] []),.c (.str s)] (.c (.str r)):=by
 unfold smap? at h
 split at h
 ·rename_i hn
  cases h
  refine cpure_of fun E w μ κ cargs H hsz hrel=>?_
  have r0:=relV_c (hrel 0 _ rfl)
  obtain ⟨b,rfl,e1⟩:=relS (hrel 1 _ rfl)
  have hb:b.data.toList.length=b.size:=rfl
  obtain ⟨vs,us,e0,hv,hu,_,_⟩:=relC_fn r0
  have hv' : vs = #[]:=Array.eq_empty_of_size_eq_zero hv.symm
  have hu' : us = #[]:=Array.eq_empty_of_size_eq_zero hu.symm
  subst hv' hu'
  rw [arr2 hsz,e0,e1]
  have hG:MapGrows P g #[] F w:=by
   intro W x hx hB
   have HW:HeapOK Γ (fun _=>False) W (fun _=>0) (fun _=>0) (fun _=>none) 0:=by
    refine ⟨fun k h=>h.elim,fun b x h=>(by cases h),fun b b' x x' h=>(by cases h),fun b x h=>(by cases h),fun b x h=>(by cases h),fun q=>(H.glob q).mono ?_⟩
    refine ⟨Nat.le_refl _,fun b hb=>absurd hb (Nat.not_lt_zero _),fun b hb=>absurd hb (Nat.not_lt_zero _),fun k hk=>⟨Nat.lt_of_lt_of_le hk.1 hB.size,fun h=>h,fun b x h=>(by cases h)⟩,fun k hk=>hB.block k hk.1⟩
   have:=hg (x:Int) (fun _=>False) W (fun _=>0) (fun _=>0) #[.int .i32 (x:Int)] HW rfl (fun i y hi=>by
    cases i with
    | zero=>cases hi; exact .c (.val rfl)
    | succ i=>simp at hi)
   refine Calls.mono this ?_
   rintro e w' ⟨cv,r',h',n',μ',κ',rfl,⟨rfl,rfl,rfl⟩,H',F',hr⟩
   have:=relI hr
   subst this
   refine ⟨rfl,F'.os,F'.tape,F'.output,F'.size,fun k hk=>?_⟩
   exact F'.le.heap k ⟨hk,fun h=>h,fun b x h=>(by cases h)⟩
  refine (Any.strings_Map_grows L X g #[] eg F b w (by omega) hG hn.2 (tabs_is H h3 h4)).mono ?_
  rintro e w' ⟨rfl,hB⟩
  exact ⟨_,rfl,fun K=>.c (.str (by simp)),below_grown hB⟩
 ·cases h
end Go.Proofs.YtngonchkhmjenaaGreatDoorBv
