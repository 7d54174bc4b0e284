/- strings.IndexRune at a rune past 127 in a text of ASCII bytes, strings.IndexAny of ASCII bytes in any text: walked for any program, beside the kit's own contracts. It proves nothing of any program. -/
import Derived.Shelf.Strings.IndexAnyAll
import Derived.Laws.RangeAny
import Derived.Laws.Runes
import Derived.WalkMore
import Derived.Shelf.Small.Utf8
import Derived.Shelf.RegionOpenPlain
import Derived.BigQuiet
import Derived.Lib.OthersKept
namespace Go.Proofs.YtngonchkhmjenaaGreatDoorBv
open Go Go.Proofs
open Go.Shelf Go.RowKit Go.Lib
variable {P : Program} {ρ : Ren}
theorem decode_far (s:ByteArray) (pos:Nat) (h:pos<s.size) (ha:128≤(s[pos]'h).toNat) :
  128≤(Utf8.decode s pos).1∧Utf8.valid ((Utf8.decode s pos).1:Int)=true∧1≤(Utf8.decode s pos).2∧pos+(Utf8.decode s pos).2≤s.size∧∀ k,k<(Utf8.decode s pos).2→128≤(s.get! (pos+k)).toNat:=by
 have h0:s.get! pos=s[pos]'h:=get_at s pos h
 have hb:∀ k,(s.get! (pos+k)).toNat<256:=fun k=>(s.get! (pos+k)).toNat_lt
 have h1:=hb 1; have h2:=hb 2; have h3:=hb 3
 have hn:¬ (s[pos]'h).toNat<128:=by omega
 have one:∀ k,k<1→128≤(s.get! (pos+k)).toNat:=by
  intro k hk
  have:k=0:=by omega
  subst this
  rw [Nat.add_zero,h0]
  exact ha
 have bad:128≤Utf8.runeError∧Utf8.valid (Utf8.runeError:Int)=true∧1≤1∧pos+1≤s.size∧∀ k,k<1→128≤(s.get! (pos+k)).toNat:=⟨by decide,by decide,by omega,by omega,one⟩
 simp only [Utf8.decode,get_at s pos h,hn,if_false]
 split
 ·rename_i c2
  simp only [Bool.and_eq_true,beq_iff_eq,decide_eq_true_eq] at c2
  split
  ·refine ⟨by omega,?_,by omega,by omega,fun k hk=>?_⟩
   ·simp only [Utf8.valid,Bool.or_eq_true,Bool.and_eq_true,decide_eq_true_eq]
    omega
   ·match k,hk with
    | 0,_=>exact one 0 (by omega)
    | 1,_=>omega
  ·exact bad
 ·split
  ·rename_i c3
   simp only [Bool.and_eq_true,beq_iff_eq,decide_eq_true_eq] at c3
   split
   ·rename_i hv
    simp only [Bool.and_eq_true,decide_eq_true_eq,ge_iff_le] at hv
    refine ⟨by omega,hv.2,by omega,by omega,fun k hk=>?_⟩
    match k,hk with
    | 0,_=>exact one 0 (by omega)
    | 1,_=>omega
    | 2,_=>omega
   ·exact bad
  ·split
   ·rename_i c4
    simp only [Bool.and_eq_true,beq_iff_eq,decide_eq_true_eq] at c4
    split
    ·rename_i hv
     simp only [Bool.and_eq_true,decide_eq_true_eq,ge_iff_le] at hv
     refine ⟨by omega,hv.2,by omega,by omega,fun k hk=>?_⟩
     match k,hk with
     | 0,_=>exact one 0 (by omega)
     | 1,_=>omega
     | 2,_=>omega
     | 3,_=>omega
    ·exact bad
   ·exact bad
set_option maxHeartbeats 8000000 in
set_option maxRecDepth 1000000 in
theorem strings_IndexRune_bad (L:Lays.n152 P ρ) (s:ByteArray) (w:World) (hascii:∀(j:Nat) b,s.data.toList[j]? = some b→b.toNat<128) :
  Calls P (ρ.f 152) #[.string s,.int .i32 65533] w fun e w' => e = .returned (.int .i64 (-1))∧∃ pos,w' = w.iter s pos:=by
 have HA:Aside (∀(j:Nat) b,s.data.toList[j]? = some b→b.toNat<128):=hascii
 clear hascii
 have t0:=L.t0; have a0:=L.a0; have z0:=L.z0; have v0:=L.v0
 have t3:=L.t3; have a3:=L.a3; have z3:=L.z3; have v3:=L.v3
 have t4:=L.t4; have a4:=L.a4; have z4:=L.z4; have v4:=L.v4
 have t5:=L.t5; have a5:=L.a5; have z5:=L.z5; have v5:=L.v5
 have t9:=L.t9; have a9:=L.a9; have z9:=L.z9; have v9:=L.v9
 have t21:=L.t21; have a21:=L.a21; have z21:=L.z21; have v21:=L.v21
 go_enter L.f152,Body.n152_ntmps ρ
 go_wp2
 go_loopg [5,6] s.size (fun g _ _ wx=>∃ i:Nat,i+g=s.size∧wx=w.iter s i)
 case atStart=>exact ⟨0,by omega,rfl⟩
 case round =>
  obtain ⟨i,hig,rfl⟩:=hrel
  cases gk with
  | zero =>
   obtain rfl:i=s.size:=by omega
   have hnx:=run_next_end (P:=P) w s s.size
   go_wp2
   go_ret
   exact ⟨rfl,_,rfl⟩
  | succ g =>
   have hi:i<s.size:=by omega
   obtain ⟨x,hx⟩:∃ x:UInt8,s[i]'hi=x:=⟨_,rfl⟩
   have hxl:s.data.toList[i]? = some x:=by rw [← hx]; exact Lib.data_getElem? s i hi
   have hx128:x.toNat<128:=HA.out i x hxl
   have hnx:=fun ty=>run_next_ascii (P:=P) w s i ty hi (by rw [hx]; exact hx128)
   rw [hx] at hnx
   clear hxl hx
   have hne:((x.toNat:Int) == 65533)=false:=beq_eq_false_iff_ne.2 (by omega)
   go_wp2
   go_roundg g
   case measure=>omega
   case rel=>exact ⟨i+1,by omega,rfl⟩
set_option maxHeartbeats 8000000 in
set_option maxRecDepth 1000000 in
theorem strings_IndexRune_far (L:Lays.n152 P ρ) (s:ByteArray) (r:Int) (w:World) (h0:128≤r) (hv:Utf8.valid r=true) (hr:r≠65533) (_hs:s.size<4294967281) (hascii:∀(j:Nat) b,s.data.toList[j]? = some b→b.toNat<128) :
  Calls P (ρ.f 152) #[.string s,.int .i32 r] w fun e w' => e = .returned (.int .i64 (-1))∧∃ q,w' = w.drewN q:=by
 obtain ⟨m,c1,hc1,hm,hm1,hm3,y,hy,hy128⟩:∃(m:Nat) (c1:ByteArray),Utf8.encode r=c1∧c1.size=m+1∧1≤m∧m≤3∧∃ y:UInt8,(∀ h:m<c1.size,c1[m]'h=y)∧128≤y.toNat:=by
  obtain ⟨h2,h4,h5⟩:=encode_facts r hv h0
  refine ⟨(Utf8.encode r).size - 1,_,rfl,by omega,by omega,by omega,(Utf8.encode r)[(Utf8.encode r).size - 1]'(by omega),fun h=>rfl,h5 (by omega)⟩
 have hcv:=fun (w:World) (src dst:TypeId) (k:IntKind) h1 h2=>run_convert_int_string (P:=P) w src dst k r h1 h2
 rw [hc1] at hcv
 have hvr:Lib.validRune r=true:=by
  simp [Utf8.valid] at hv
  unfold Lib.validRune
  exact decide_eq_true (by omega)
 have hne:(r == 65533)=false:=beq_eq_false_iff_ne.2 hr
 have hle:(0≤r∧r<128)=False:=eq_false (by omega)
 have h1:(0:Int)≤r:=by omega
 have h2:¬ (r<128):=by omega
 have HA:Aside (∀(j:Nat) b,s.data.toList[j]? = some b→b.toNat<128):=hascii
 clear hascii
 have mixed:=L.mixed
 have t0:=L.t0; have a0:=L.a0; have z0:=L.z0; have v0:=L.v0
 have t3:=L.t3; have a3:=L.a3; have z3:=L.z3; have v3:=L.v3
 have t4:=L.t4; have a4:=L.a4; have z4:=L.z4; have v4:=L.v4
 have t5:=L.t5; have a5:=L.a5; have z5:=L.z5; have v5:=L.v5
 have t9:=L.t9; have a9:=L.a9; have z9:=L.z9; have v9:=L.v9
 have t21:=L.t21; have a21:=L.a21; have z21:=L.z21; have v21:=L.v21
 have e137:∀ args w,(callFunc (ρ.f 137) args).run P w = .ok (.enter (ρ.f 137) args) w:=enters_of L.f137 (by kernel_rfl) rfl
 have e119:∀ args w,(callFunc (ρ.f 119) args).run P w = .ok (.enter (ρ.f 119) args) w:=enters_of L.f119 (by kernel_rfl) rfl
 go_enter L.f152,Body.n152_ntmps ρ
 go_wp2_with (go_at_fn (ρ.f 119); refine (Any.utf8_ValidRune { L with } _ _).mono ?_; rintro e w' ⟨rfl,hw⟩; rw [hw,hvr])
 go_step3
 go_wp2
 go_loopg [9,11] 1 (fun g s9 _ wx=>wx=w∧s9 = .int .i64 m)
 case atStart=>exact ⟨rfl,rfl⟩
 case round =>
  obtain ⟨rfl,rfl⟩:=hrel
  by_cases hin:m<s.size
  ·obtain ⟨x,hx⟩:∃ x:UInt8,s[m]'hin=x:=⟨_,rfl⟩
   have hxl:s.data.toList[m]? = some x:=by rw [← hx]; exact Lib.data_getElem? s m hin
   have hx128:x.toNat<128:=HA.out m x hxl
   have hin' : (m:Int)<(s.size:Int):=by omega
   have hne2:((x.toNat:Int) == (y.toNat:Int))=false:=beq_eq_false_iff_ne.2 (by omega)
   have hin4:m<c1.size:=by omega
   have hin3:(m:Int)<(c1.size:Int):=by omega
   have hix:=hy hin4
   clear hm hy
   have hib:Lib.indexByte (s.extract (m+1) s.size).data.toList y = -1:=by
    rcases indexByte_piece s (m+1) s.size y with h | ⟨o,ho,ho2⟩
    ·exact h
    ·exfalso
     have:=(indexByte_some ho).1
     rw [extract_to_end] at this
     rw [List.getElem?_drop] at this
     have:=HA.out _ _ this
     omega
   have hwr:IntKind.i64.wrap ((m:Int)+1)=(m:Int)+1:=by simp [IntKind.wrap,IntKind.bits]; omega
   have hs1:(0:Int)≤(m:Int)+1:=by omega
   have hs2:(m:Int)+1≤(s.size:Int):=by omega
   have hs3:((m:Int)+1).toNat=m+1:=by omega
   have hcl:∀ wx,Calls P (ρ.f 137) #[.string (s.extract (m+1) s.size),.int .u8 (y.toNat:Int)] wx fun e w'' => e = .returned (.int .i64 (-1))∧w'' = wx:=fun wx =>
    (Any.strings_IndexByte { L with } _ _ wx).mono (by rintro e w'' ⟨rfl,rfl⟩; exact ⟨by rw [show ((y.toNat:Int)).toNat.toUInt8=y by simp,hib],rfl⟩)
   have hback:((y.toNat:Int)).toNat.toUInt8=y:=by simp
   clear hxl
   go_wp2_with fail
   go_step3
   go_wp2_with fail
   go_quiet_o (fail)
   go_wp2_with fail
   go_quiet_o (exact (hcl _).mono (fun e w'' h=>⟨h.1,_,h.2⟩))
   go_wp2
   rw [Exit.noGoto_ret]
   go_simp
   go_ret
   exact ⟨rfl,_,rfl⟩
  ·have hin' : ¬ ((m:Int)<(s.size:Int)):=by omega
   go_wp2
   go_ret
   exact ⟨rfl,0,rfl⟩
theorem strings_IndexRune_high (L:Lays.n152 P ρ) (s:ByteArray) (r:Int) (w:World) (h0:128≤r) (hv:Utf8.valid r=true) (hs:s.size<4294967281) (hascii:∀(j:Nat) b,s.data.toList[j]? = some b→b.toNat<128) :
  Calls P (ρ.f 152) #[.string s,.int .i32 r] w fun e w' => e = .returned (.int .i64 (-1))∧Below w.heap.size w w' := by
 by_cases hr:r=65533
 ·subst hr
  refine (strings_IndexRune_bad L s w hascii).mono ?_
  rintro e w' ⟨rfl,pos,rfl⟩
  exact ⟨rfl,(Below.refl _ w).alloc (Nat.le_refl _) _⟩
 ·refine (strings_IndexRune_far L s r w h0 hv hr hs hascii).mono ?_
  rintro e w' ⟨rfl,q,rfl⟩
  exact ⟨rfl,rfl,rfl,rfl,Nat.le_refl _,fun k hk=>rfl⟩
theorem noAny_far {s chars:ByteArray}{i K:Nat}(h:Lib.NoAny s.data.toList chars.data.toList i) (hf:∀ k,k<K→128≤(s.get! (i+k)).toNat) (ha:∀(j:Nat) b,chars.data.toList[j]? = some b→b.toNat<128) :
  Lib.NoAny s.data.toList chars.data.toList (i+K):=by
 intro j b hj hb
 by_cases hi:j<i
 ·exact h j b hi hb
 ·have h1:=hf (j - i) (by omega)
  rw [show i+(j - i)=j by omega] at h1
  have hlt:j<s.size:=by
   have:=(List.getElem?_eq_some_iff.1 hb).1
   exact this
  have h2:=get_at s j hlt
  rw [Nat.add_zero] at h2
  have h3:=Lib.data_getElem? s j hlt
  rw [hb] at h3
  rw [h2,← Option.some.inj h3] at h1
  cases hc:chars.data.toList.contains b with
  | false=>rfl
  | true =>
   exfalso
   have hm:b ∈ chars.data.toList:=by simpa using hc
   obtain ⟨k,hk⟩:=List.getElem?_of_mem hm
   have:=ha k b hk
   omega
set_option maxHeartbeats 8000000 in
set_option maxRecDepth 1000000 in
theorem strings_IndexAny_few (L:Lays.n153 P ρ) (s chars:ByteArray) (w:World) (h2:2≤chars.size) (h8:s.size≤8) (hcs:chars.size<4294967281) (hascii:∀(j:Nat) b,chars.data.toList[j]? = some b→b.toNat<128) :
  Calls P (ρ.f 153) #[.string s,.string chars] w fun e w' => e = .returned (.int .i64 (Lib.indexAny s.data.toList chars.data.toList))∧Below w.heap.size w w' := by
 have HA:Aside (∀(j:Nat) b,chars.data.toList[j]? = some b→b.toNat<128):=hascii
 clear hascii
 have hemp:chars.toList.isEmpty=false:=by
  rw [Lib.toList_data]
  cases h:chars.data.toList with
  | nil=>have:=Lib.size_eq chars; rw [h,List.length_nil] at this; omega
  | cons _ _=>rfl
 have hn1:((chars.size:Int) == 1)=false:=beq_eq_false_iff_ne.2 (by omega)
 have h8z:decide ((8:Int)<(s.size:Int))=false:=decide_eq_false (by omega)
 have t3:=L.t3; have a3:=L.a3; have z3:=L.z3; have v3:=L.v3
 have t4:=L.t4; have a4:=L.a4; have z4:=L.z4; have v4:=L.v4
 have t5:=L.t5; have a5:=L.a5; have z5:=L.z5; have v5:=L.v5
 have t9:=L.t9; have a9:=L.a9; have z9:=L.z9; have v9:=L.v9
 have t21:=L.t21; have a21:=L.a21; have z21:=L.z21; have v21:=L.v21
 have e152:∀ args w,(callFunc (ρ.f 152) args).run P w = .ok (.enter (ρ.f 152) args) w:=enters_of L.f152 (by kernel_rfl) rfl
 have e226:∀ args w,(callFunc (ρ.f 226) args).run P w = .ok (.enter (ρ.f 226) args) w:=enters_of L.f226 (by kernel_rfl) rfl
 go_enter L.f153,Body.n153_ntmps ρ
 go_wp2_with (go_at_fn (ρ.f 226); refine (Any.strings_shouldUseASCIISet { L with } _ _).mono ?_; rintro e w' ⟨rfl,hw⟩; rw [hw,h8z])
 go_loopg [9,10] s.size (fun g _ _ wx=>∃ i:Nat,i+g ≥ s.size∧i≤s.size∧wx.heap[w.heap.size]? = some (.stringIter s i)∧Below w.heap.size w wx∧Lib.NoAny s.data.toList chars.data.toList i)
 case atStart=>exact ⟨0,by omega,by omega,World.iter_heap w s 0,(Below.refl _ w).alloc (Nat.le_refl _) _,Lib.NoAny.zero _ _⟩
 case round =>
  obtain ⟨i,hig,hil,hit,hbw,hno⟩:=hrel
  have HN:Aside (Lib.NoAny s.data.toList chars.data.toList i):=hno
  have HB:Aside (Below w.heap.size w wr):=hbw
  have hsz:w.heap.size<wr.heap.size:=(Array.getElem?_eq_some_iff.1 hit).1
  clear hno hbw
  by_cases hi:i<s.size
  ·obtain ⟨g',rfl⟩:∃ g',gk=g' + 1:=⟨gk - 1,by omega⟩
   obtain ⟨x,hx⟩:∃ x:UInt8,s[i]'hi=x:=⟨_,rfl⟩
   have hxl:s.data.toList[i]? = some x:=by rw [← hx]; exact Lib.data_getElem? s i hi
   have Hx:Aside (s.data.toList[i]? = some x):=hxl
   by_cases hx128:x.toNat<128
   ·have hnx:=fun ty=>Lib.run_next_ascii_at (P:=P) wr w.heap.size s i ty hit hi (by rw [hx]; exact hx128)
    rw [hx] at hnx
    have hh:=Lib.iterAt_heap wr w.heap.size s i (i+1) hit
    have hB2:Aside (Below w.heap.size w (wr.iterAt w.heap.size s (i+1))):=below_iterAt HB.out (Nat.le_refl _) s (i+1)
    clear hxl hx hit
    have hcon:=Lib.contains_iff_indexByte chars.data.toList x
    have hback:((x.toNat:Int)).toNat.toUInt8=x:=by simp
    cases hin:chars.data.toList.contains x
    ·rw [hin] at hcon
     have hlt:¬ ((0:Int)≤Lib.indexByte chars.data.toList x):=of_decide_eq_false hcon.symm
     clear hcon
     go_wp2_with (go_at_fn (ρ.f 152); refine (Any.strings_IndexRune_ascii { L with } _ _ _ (by omega) (by omega)).mono ?_; rintro e w' ⟨rfl,hw⟩; rw [hw,hback])
     go_roundg g'
     case measure=>omega
     case rel=>exact ⟨i+1,by omega,by omega,hh,hB2.out,HN.out.succ Hx.out hin⟩
    ·rw [hin] at hcon
     have hge:(0:Int)≤Lib.indexByte chars.data.toList x:=of_decide_eq_true hcon.symm
     clear hcon
     go_wp2_with (go_at_fn (ρ.f 152); refine (Any.strings_IndexRune_ascii { L with } _ _ _ (by omega) (by omega)).mono ?_; rintro e w' ⟨rfl,hw⟩; rw [hw,hback])
     go_ret
     exact ⟨by rw [Lib.indexAny_hit HN.out Hx.out hin]; rfl,hB2.out⟩
   ·obtain ⟨hd1,hd2,hd3,hd4,hd5⟩:=decode_far s i hi (by rw [hx]; omega)
    have hnx:=fun ty=>Lib.run_next_any_at (P:=P) wr w.heap.size s i ty hit hi
    have hh:=Lib.iterAt_heap wr w.heap.size s i (i+(Utf8.decode s i).2) hit
    have hB2:Aside (Below w.heap.size w (wr.iterAt w.heap.size s (i+(Utf8.decode s i).2))):=below_iterAt HB.out (Nat.le_refl _) s _
    have hs2:(wr.iterAt w.heap.size s (i+(Utf8.decode s i).2)).heap.size=wr.heap.size:=Lib.iterAt_size _ _ _ _
    obtain ⟨R,hR⟩:∃ R,(Utf8.decode s i).1=R:=⟨_,rfl⟩
    obtain ⟨K,hK⟩:∃ K,(Utf8.decode s i).2=K:=⟨_,rfl⟩
    rw [hR] at hnx hd1 hd2
    rw [hK] at hnx hd3 hd4 hd5 hh hB2 hs2
    have HF:Aside (∀ k,k<K→128≤(s.get! (i+k)).toNat):=hd5
    have hcl:=fun wx=>strings_IndexRune_high (P:=P) (ρ:=ρ) { L with } chars (R:Int) wx (by omega) hd2 hcs HA.out
    clear hd5 hxl hx hd2 hR hK hit
    obtain ⟨W2,hW2⟩:∃ W2,wr.iterAt w.heap.size s (i+K)=W2:=⟨_,rfl⟩
    rw [hW2] at hnx hh hB2 hs2
    clear hW2
    go_wp2_with (go_at_fn (ρ.f 152); refine (hcl _).mono ?_; rintro e w' ⟨rfl,hw⟩; have hwA:Aside (Below W2.heap.size W2 w'):=hw; clear hw)
    go_roundg g'
    case measure=>omega
    case rel=>exact ⟨i+K,by omega,by omega,(hwA.out.block _ (by omega)).trans hh,hB2.out.trans (hwA.out.mono (by omega)),noAny_far HN.out HF.out HA.out⟩
  ·obtain rfl:i=s.size:=by omega
   have hnx:=fun ty=>Lib.run_next_end_at (P:=P) wr w.heap.size s s.size ty hit (by omega)
   go_wp2
   go_ret
   exact ⟨by rw [Lib.indexAny_none (by rw [← Lib.size_eq]; exact HN.out)]; rfl,HB.out⟩
theorem indexAny_any (L:Lays.n153 P ρ) (h116:(P.info? (ρ.t 116)).map (fun i=>(i.zero,i.size))=some (some (.agg (Array.replicate 256 (.bool false))),256)) (s chars:ByteArray) (w:World) (hs:s.size<4294967281) (hcs:chars.size<4294967281)
  (hascii:∀(j:Nat) b,chars.data.toList[j]? = some b→b.toNat<128) :
  Calls P (ρ.f 153) #[.string s,.string chars] w fun e w' => e = .returned (.int .i64 (Lib.indexAny s.data.toList chars.data.toList))∧Below w.heap.size w w' := by
 by_cases h0:chars.size=0
 ·refine (Any.strings_IndexAny_none L s chars w h0).mono ?_
  rintro e w' ⟨rfl,rfl⟩
  exact ⟨rfl,Below.refl _ _⟩
 ·by_cases h1:chars.size=1
  ·refine (Any.strings_IndexAny_one L s chars w h1 hascii).mono ?_
   rintro e w' ⟨rfl,rfl⟩
   exact ⟨rfl,Below.refl _ _⟩
  ·by_cases h8:s.size≤8
   ·exact strings_IndexAny_few L s chars w (by omega) h8 hcs hascii
   ·refine (Any.strings_IndexAny_long L (zero_of_info h116).1 (zero_of_info h116).2 s chars w (by omega) (by omega) hs hcs hascii).mono ?_
    rintro e w' ⟨rfl,rfl⟩
    exact ⟨rfl,((Below.refl _ w).alloc (Nat.le_refl _) _).alloc (by simp) _⟩
end Go.Proofs.YtngonchkhmjenaaGreatDoorBv
