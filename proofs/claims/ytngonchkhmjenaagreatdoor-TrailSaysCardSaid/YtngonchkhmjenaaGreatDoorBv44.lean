/- The calculus: strings.Split at one byte, piece by piece; small laws of texts. No program is in sight. -/
import Derived.Test.YtngonchkhmjenaaGreatDoorBv27
import Derived.Test.YtngonchkhmjenaaGreatDoorBv23
import Derived.Lib.SlTrimSet
namespace Go.Proofs.YtngonchkhmjenaaGreatDoorBv
open Go
set_option linter.unusedVariables false
set_option linter.unusedSimpArgs false
def cutB (c:UInt8):List UInt8→List (List UInt8)
 | []=>[[]]
 | x::r=>if x=c then []::cutB c r else match cutB c r with
  | h::t=>(x::h)::t
  | []=>[[x]]
theorem cutB_ne (c:UInt8) (l:List UInt8):cutB c l≠[]:=by
 cases l with
 | nil=>simp [cutB]
 | cons x r =>
  unfold cutB
  split
  ·simp
  ·split <;> simp
theorem cutB_none {c:UInt8}:∀{l:List UInt8},(∀ x,x ∈ l→x≠c)→cutB c l=[l]
 | [],_=>rfl
 | x::r,h=>by
  unfold cutB
  rw [if_neg (h x (List.mem_cons_self ..)),cutB_none fun y hy=>h y (List.mem_cons_of_mem _ hy)]
theorem cutB_hit {c:UInt8}:∀{a:List UInt8}(b:List UInt8),(∀ x,x ∈ a→x≠c)→cutB c (a ++ c::b)=a::cutB c b
 | [],b,_=>by rw [List.nil_append,cutB,if_pos rfl]
 | x::r,b,h=>by
  rw [List.cons_append,cutB,if_neg (h x (List.mem_cons_self ..)),cutB_hit b fun y hy=>h y (List.mem_cons_of_mem _ hy)]
theorem index_one (c:UInt8):∀ l:List UInt8,(Lib.index l [c] = -1∧∀ x,x ∈ l→x≠c)∨∃ a b,l=a ++ c::b∧(∀ x,x ∈ a→x≠c)∧Lib.index l [c]=(a.length:Int)
 | []=>.inl ⟨rfl,fun x h=>absurd h List.not_mem_nil⟩
 | x::r=>by
  by_cases hx:x=c
  ·subst hx
   exact .inr ⟨[],r,rfl,fun y h=>absurd h List.not_mem_nil,by unfold Lib.index; simp [List.isPrefixOf]⟩
  ·have hp:List.isPrefixOf [c] (x::r)=false:=by simp [List.isPrefixOf]; exact fun e=>hx e.symm
   rcases index_one c r with ⟨h1,h2⟩ | ⟨a,b,h1,h2,h3⟩
   ·refine .inl ⟨by unfold Lib.index; rw [hp,h1]; rfl,fun y hy=>?_⟩
    rcases List.mem_cons.1 hy with rfl | hy
    ·exact hx
    ·exact h2 y hy
   ·refine .inr ⟨x::a,b,by rw [h1]; rfl,fun y hy=>?_,?_⟩
    ·rcases List.mem_cons.1 hy with rfl | hy
     ·exact hx
     ·exact h2 y hy
    ·unfold Lib.index
     rw [hp,h3]
     have:¬ (((a.length:Int)) == -1)=true:=by rw [beq_iff_eq]; omega
     simp only [Bool.false_eq_true,if_false,if_neg this,List.length_cons]
     omega
theorem splitK_one (c:UInt8):∀(n:Nat) (l:List UInt8),l.length≤n→Lib.splitK [c] 0 (Lib.count l [c]) l=cutB c l:=by
 intro n
 induction n with
 | zero =>
  intro l hl
  obtain rfl:=List.eq_nil_of_length_eq_zero (Nat.le_zero.1 hl)
  rfl
 | succ n ih =>
  intro l hl
  rcases index_one c l with ⟨h1,h2⟩ | ⟨a,b,h1,h2,h3⟩
  ·rw [Lib.count_miss h1,cutB_none h2]; rfl
  ·have hc:=Lib.count_hit (sub:=[c]) (by simp) h3
   have hd:l.drop (a.length + [c].length)=b:=by
    rw [h1]; simp
   rw [hd] at hc
   rw [hc,Nat.add_comm 1,Lib.splitK,h3,if_neg (by rw [beq_iff_eq]; omega)]
   simp only [Int.toNat_natCast,Nat.add_zero]
   rw [hd,ih b (by rw [h1] at hl; simp at hl; omega),h1,cutB_hit b h2,List.take_left' rfl]
theorem splitL_one (s:List UInt8) (c:UInt8):splitL s [c]=cutB c s:=by
 unfold splitL
 rw [Lib.splitB_data]
 exact splitK_one c s.length s (Nat.le_refl _)
theorem split_one {s:List UInt8}{c:UInt8}(h:s.length<4294967281):split? s [c]=some (cutB c s):=by
 unfold split?
 rw [if_pos ⟨h,by simp⟩,splitL_one]
theorem cutB_mem {c:UInt8}:∀{l p:List UInt8},p ∈ cutB c l→(∀ x,x ∈ p→x ∈ l∧x≠c)∧p.length≤l.length
 | [],p,h=>by
  rw [cutB,List.mem_singleton] at h
  subst h
  exact ⟨fun x h=>absurd h List.not_mem_nil,Nat.le_refl _⟩
 | x::r,p,h=>by
  unfold cutB at h
  split at h
  ·rcases List.mem_cons.1 h with rfl | h
   ·exact ⟨fun x h=>absurd h List.not_mem_nil,Nat.zero_le _⟩
   ·obtain ⟨h1,h2⟩:=cutB_mem h
    exact ⟨fun y hy=>⟨List.mem_cons_of_mem _ (h1 y hy).1,(h1 y hy).2⟩,Nat.le_succ_of_le h2⟩
  ·rename_i hx
   split at h
   ·rename_i h0 t he
    rcases List.mem_cons.1 h with rfl | h
    ·obtain ⟨h1,h2⟩:=cutB_mem (c:=c) (l:=r) (p:=h0) (by rw [he]; exact List.mem_cons_self ..)
     refine ⟨fun y hy=>?_,by simpa using h2⟩
     rcases List.mem_cons.1 hy with rfl | hy
     ·exact ⟨List.mem_cons_self ..,hx⟩
     ·exact ⟨List.mem_cons_of_mem _ (h1 y hy).1,(h1 y hy).2⟩
    ·obtain ⟨h1,h2⟩:=cutB_mem (c:=c) (l:=r) (p:=p) (by rw [he]; exact List.mem_cons_of_mem _ h)
     exact ⟨fun y hy=>⟨List.mem_cons_of_mem _ (h1 y hy).1,(h1 y hy).2⟩,Nat.le_succ_of_le h2⟩
   ·rename_i he
    exact absurd he (cutB_ne c r)
theorem cutB_length (c:UInt8):∀ l:List UInt8,(cutB c l).length≤l.length+1
 | []=>by simp [cutB]
 | x::r=>by
  have:=cutB_length c r
  unfold cutB
  split
  ·simpa using this
  ·split
   ·rename_i h t he; rw [he] at this; simp at this ⊢; omega
   ·simp
/-! ### a text's beginning, and its end -/
theorem set_selfB {α:Type}{l:List α}{i:Nat}{a:α}(h:l[i]? = some a):l.set i a=l:=by
 apply List.ext_getElem?
 intro j
 rw [List.getElem?_set]
 split
 ·rename_i e; subst e
  split
  ·exact h.symm
  ·rename_i hl; rw [List.getElem?_eq_none (by omega)] at h; cases h
 ·rfl
theorem sub_oneB {s:List UInt8}{i:Nat}(h:i<s.length):sub? s (i:Int) ((i+1:Nat):Int)=some [s[i]]:=by
 rw [sub_nat (by omega) (by omega),List.take_add_one,List.getElem?_eq_getElem h,List.drop_left' (by rw [List.length_take]; omega)]
 rfl
theorem mem_dropWhile {α:Type}{p:α→Bool}{x:α}(hp:p x=false):∀{l:List α},x ∈ l→x ∈ l.dropWhile p
 | y::r,h=>by
  rw [List.dropWhile_cons]
  split
  ·rename_i hy
   rcases List.mem_cons.1 h with rfl | h
   ·rw [hp] at hy; cases hy
   ·exact mem_dropWhile hp h
  ·exact h
theorem dropWhile_nil {α:Type}{p:α→Bool}:∀{l:List α},(∀ x,x ∈ l→p x=true)→l.dropWhile p=[]
 | [],_=>rfl
 | y::r,h=>by rw [List.dropWhile_cons,if_pos (h y (List.mem_cons_self ..)),dropWhile_nil fun x hx=>h x (List.mem_cons_of_mem _ hx)]
theorem trimS_nil {l cs:List UInt8}:Lib.trimS l cs=[]↔∀ x,x ∈ l→cs.contains x=true:=by
 unfold Lib.trimS Lib.trimLeftS Lib.trimRightS
 constructor
 ·intro h x hx
  cases hc:cs.contains x with
  | true=>rfl
  | false =>
   have h1:x ∈ (l.reverse.dropWhile (cs.contains ·)).reverse:=List.mem_reverse.2 (mem_dropWhile (p:=(cs.contains ·)) hc (List.mem_reverse.2 hx))
   have h2:=mem_dropWhile (p:=(cs.contains ·)) hc h1
   rw [h] at h2
   cases h2
 ·intro h
  rw [dropWhile_nil (l:=l.reverse) fun x hx=>h x (List.mem_reverse.1 hx)]
  rfl
end Go.Proofs.YtngonchkhmjenaaGreatDoorBv
