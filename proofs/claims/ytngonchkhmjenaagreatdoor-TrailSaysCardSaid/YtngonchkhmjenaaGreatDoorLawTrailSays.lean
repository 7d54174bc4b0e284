/- The law 'TrailSays' answers true, whatever is handed in, where the listed package variables read as the program's text lays them; and the card, which ties that to the text. -/
import Derived.Test.YtngonchkhmjenaaGreatDoorRows
import Derived.Test.YtngonchkhmjenaaGreatDoorCards
import Derived.Test.YtngonchkhmjenaaGreatDoorTie
import Derived.Test.YtngonchkhmjenaaGreatDoorPureTrailSays
import Derived.Test.YtngonchkhmjenaaGreatDoorBv41
import Derived.WalkKit
import Derived.ProofKit
import Derived.OpenShut
import Derived.LaidMore
import Derived.Lay
import Derived.SevenTiedAt
import Derived.Stop.Joined
namespace Go.Proofs.YtngonchkhmjenaaGreatDoor.trailSays
open Go Go.ChangeShapes Go.WideShapes Go.ChangeAt Go.RowKit Go.Proofs.YtngonchkhmjenaaGreatDoorBv
set_option linter.unusedVariables false
set_option linter.unusedSimpArgs false
theorem own:ownKnob Tryz.prog.godebug=none:=by kernel_rfl
theorem laid:laidOutB Tryz.prog=true:=by kernel_rfl
theorem good:plainTs Tryz.prog [24,9,9,3]=true:=by kernel_rfl
def listed:List (String×DataW Unit):=[("math/bits.deBruijn32tab",Rows.laid_math_bits_deBruijn32tab),("math/bits.deBruijn64tab",Rows.laid_math_bits_deBruijn64tab),("internal/strconv.uint64pow10",Rows.laid_internal_strconv_uint64pow10),("unicode/utf8.acceptRanges",Rows.laid_unicode_utf8_acceptRanges),("strconv.ErrRange",Rows.laid_strconv_ErrRange),("strconv.ErrSyntax",Rows.laid_strconv_ErrSyntax),("unicode.CaseRanges",Rows.laid_unicode_CaseRanges),("unicode/utf8.first",Rows.laid_unicode_utf8_first)]
theorem globs {W:World}(h:laidMetH Tryz.prog listed W) (hs:W.ShapedOpen Tryz.prog):∃ mL:Int,∀ g,GlobOK (entry W) g (GG mL g):=by
 rw [MakeChecks.laidMetH_plain _ _ _ (by kernel_rfl)] at h
 obtain ⟨mL,hm⟩:=glob_int (P:=Tryz.prog) (g:=0) (t:=3) (zero:=#[.int .i64 0]) hs (of_decide_eq_true (by kernel_rfl)) (by kernel_rfl) rfl (by kernel_rfl) (by kernel_rfl) Tryz.underlying3
 refine ⟨mL,?_⟩
 intro g
 by_cases h7:g=7
 ·subst h7
  exact laid_met h (n := "math/bits.deBruijn32tab") (dat:=Rows.laid_math_bits_deBruijn32tab) (g:=7) (t:=181) (l:=g7_c) (.head _) (by kernel_rfl) (by kernel_rfl) (by kernel_rfl) (by kernel_rfl)
 by_cases h8:g=8
 ·subst h8
  exact laid_met h (n := "math/bits.deBruijn64tab") (dat:=Rows.laid_math_bits_deBruijn64tab) (g:=8) (t:=182) (l:=g8_c) (.tail _ (.head _)) (by kernel_rfl) (by kernel_rfl) (by kernel_rfl) (by kernel_rfl)
 by_cases h1:g=1
 ·subst h1
  exact laid_met h (n := "internal/strconv.uint64pow10") (dat:=Rows.laid_internal_strconv_uint64pow10) (g:=1) (t:=157) (l:=g1_c) (.tail _ (.tail _ (.head _))) (by kernel_rfl) (by kernel_rfl) (by kernel_rfl) (by kernel_rfl)
 by_cases h5:g=5
 ·subst h5
  exact laid_met h (n := "unicode/utf8.acceptRanges") (dat:=Rows.laid_unicode_utf8_acceptRanges) (g:=5) (t:=168) (l:=g5_c) (.tail _ (.tail _ (.tail _ (.head _)))) (by kernel_rfl) (by kernel_rfl) (by kernel_rfl) (by kernel_rfl)
 by_cases h3:g=3
 ·subst h3
  exact err_met (P:=Tryz.prog) h (.tail _ (.tail _ (.tail _ (.tail _ (.head _))))) (by kernel_rfl) (by kernel_rfl) Tryz.underlying92
 by_cases h2:g=2
 ·subst h2
  exact err_met (P:=Tryz.prog) h (.tail _ (.tail _ (.tail _ (.tail _ (.tail _ (.head _)))))) (by kernel_rfl) (by kernel_rfl) Tryz.underlying92
 by_cases h4:g=4
 ·subst h4
  exact laid_met h (n := "unicode/utf8.first") (dat:=Rows.laid_unicode_utf8_first) (g:=4) (t:=165) (l:=g4_c) (.tail _ (.tail _ (.tail _ (.tail _ (.tail _ (.tail _ (.tail _ (.head _)))))))) (by kernel_rfl) (by kernel_rfl) (by kernel_rfl) (by kernel_rfl)
 by_cases h0:g=0
 ·subst h0
  exact hm
 have e:GG mL g=[]:=by unfold GG; rw [if_neg h0,if_neg h1,if_neg h2,if_neg h3,if_neg h4,if_neg h5,if_neg h7,if_neg h8]
 rw [e]
 exact glob_none g
set_option maxRecDepth 100000 in
theorem lifted (os:Os) (started:os.Started) (H:Type) (enc:TypeId×Value→H) :
  ReturnsInHanded {} Tryz.checked os 3 .any (fun w args=>(Rows.trailSaysSpec.pre enc Tryz.prog Tryz.f3 Rows.trailSaysRow.domain false w args∧laidMetH Tryz.prog listed w)∧sizedMet enc Tryz.prog Tryz.f3 (OpenSpec.ofChange Rows.trailSaysSpec) false w args)
   (Rows.trailSaysSpec.post enc Tryz.prog Tryz.f3 false true false false):=by
 refine returns_shaped_and (C:=Tryz.checked) (X:=fun w _=>laidMetH Tryz.prog listed w) (fun _ _ _ hh h=>h.of_heap hh) own started (by kernel_rfl) Tryz.func3
  (ChangeSpec.witness_shaped (enc:=enc) (C:=Tryz.checked) (os:=os) (X:=fun w _=>laidMetH Tryz.prog listed w) false (World.laidAll Tryz.prog os listed) #[.agg #[.slice none 0 0,.int .i64 0],.string ⟨#[]⟩,.string ⟨#[]⟩,.int .i64 0] 8 (World.laidAll_os _ _ _)
   (World.shaped_of_ZipB (by kernel_rfl) (by kernel_rfl)) (by kernel_rfl) (by kernel_rfl) (by kernel_rfl)
   (by rw [MakeChecks.laidMetH_plain _ _ _ (by kernel_rfl)]; exact laidMet_laidAll _ (by kernel_rfl) (by kernel_rfl))) ?_
 intro W base args ds gs before hval0 hW hcnd hsz0 hL hsh _
 have hsz1:(DataW.weightsEach Tryz.prog (Tryz.f3.params.toList ++ Rows.trailSaysSpec.plain.varTypes Tryz.prog) (ds ++ gs)).all (·≤reachBytes)=true:=hsz0
 have hval:∀(j:Nat) t v,Tryz.f3.params[j]? = some t→args[j]? = some v→Value.okWide Tryz.prog W .any base t v:=hval0
 have hW' := hW
 obtain ⟨p,q,hA0,hV,rfl,hfz,hnd⟩:=hW
 have hA:DataW.TrodAll enc Tryz.prog W 0 (fun _=>true) true Tryz.f3.params.toList args.toList ds p:=hA0
 rw [Tryz.params3] at hA hval
 have hval1:∀(j:Nat) t v,([24,9,9,3]:List TypeId)[j]? = some t→args[j]? = some v→Value.okWide Tryz.prog W .any base t v:=by
  intro j t v h1 h2
  exact hval j t v (by simpa using h1) h2
 have hA1:=hA
 obtain ⟨v0,vs0,d0,ds0,p0,q0,hargs,rfl,rfl,h0,r0⟩:=trodAll_cons hA
 obtain ⟨v1,vs1,d1,ds1,p1,q1,rfl,rfl,rfl,h1,r1⟩:=trodAll_cons r0
 obtain ⟨v2,vs2,d2,ds2,p2,q2,rfl,rfl,rfl,h2,r2⟩:=trodAll_cons r1
 obtain ⟨v3,vs3,d3,ds3,p3,q3,rfl,rfl,rfl,h3,r3⟩:=trodAll_cons r2
 obtain ⟨rfl,rfl,rfl⟩:=trodAll_nil r3
 obtain ⟨rfl,rfl⟩:=trodVars_none hV
 have ets:Tryz.f3.params.toList ++ Rows.trailSaysSpec.plain.varTypes Tryz.prog=[24,9,9,3]:=by kernel_rfl
 rw [ets,List.append_nil] at hsz1
 have hw:∀ n ∈ DataW.weightsEach Tryz.prog ([24,9,9,3]:List TypeId) _,n≤reachBytes:=fun n hn=>by simpa using List.all_eq_true.1 hsz1 n hn
 obtain ⟨mL,hG⟩:=globs hL hsh
 refine (law_callsG hG laid good hA1 hw hval1 (lawTrailSays pureTrailSays)).mono fun e W' ⟨he,bel,hT⟩=>?_
 subst he
 exact ⟨_,rfl,_,_,_,[],_,[],hW',trodAll_mk1 (shut_bool Tryz.underlying4 _),hT,rfl,bel.frame _,fun h=>by cases h⟩
theorem over:Rows.TrailSaysSaid :=
 OpenClaim.holds_of_wide 3 Tryz.f3 rfl rfl rfl rfl rfl rfl rfl ⟨rfl,rfl,rfl,rfl,rfl⟩ rfl rfl rfl rfl rfl (by kernel_rfl) Tryz.func3 (by kernel_rfl)
  (of_decide_eq_true (by kernel_rfl)) (by unfold Func.isWrapper; first | (rw [if_pos (by decide +kernel)]; kernel_rfl) | (rw [if_neg (by decide +kernel)]; exact ⟨rfl,rfl⟩))
  (fun os started H enc _=>lifted os started H enc)
theorem card:Rows.TrailSaysCardSaid :=
 Claim7.holds_tied_plain_at .later [] [.data,.data,.data,.data,.sentinel,.sentinel,.pinned,.pinned] true (true, "0ff5c6b79eba92873bfea881a5be86ac0507c11a32b4f4109df90688f356c331") true over (fun _ h=>by cases h) (by kernel_rfl) (fun _ h=>by cases h) trailSays_row_tie rfl ⟨rfl,rfl⟩ (by kernel_rfl) rfl
  (fun f fn hf hfn=>by
   obtain rfl:f=3:=Option.some.inj ((show Tryz.prog.funcNamed "clerestory/clerestorylaw4.TrailSays" = some 3 by kernel_rfl).symm.trans hf) |>.symm
   obtain rfl:fn=Tryz.f3:=(Option.some.inj (Tryz.func3.symm.trans hfn)).symm
   exact ⟨by kernel_rfl,fun j t ht=>by
    rw [Tryz.params3] at ht
    have hm:t ∈ [24,9,9,3]:=by simpa using Array.mem_of_getElem? ht
    have hall:([24,9,9,3].all fun u=>!Tryz.prog.wantsStandIn u)=true:=by kernel_rfl
    exact (show Tryz.prog.wantsStandIn t=false by simpa using List.all_eq_true.1 hall t hm)⟩)
  (by kernel_rfl)
end Go.Proofs.YtngonchkhmjenaaGreatDoor.trailSays
namespace Go.Proofs.YtngonchkhmjenaaGreatDoor
theorem trailSays_holds:Rows.TrailSaysCardSaid:=trailSays.card
#print axioms trailSays_holds
end Go.Proofs.YtngonchkhmjenaaGreatDoor
-- squeezed
