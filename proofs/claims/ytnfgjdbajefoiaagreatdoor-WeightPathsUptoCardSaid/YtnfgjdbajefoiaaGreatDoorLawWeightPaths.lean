/- The law 'WeightPaths' answers true, whatever is handed in that is of bounded bulk, where the listed package variables read as the program's text lays them; and the card, which ties that to the text. -/
import Derived.Test.YtnfgjdbajefoiaaGreatDoorRows
import Derived.Test.YtnfgjdbajefoiaaGreatDoorCards
import Derived.Test.YtnfgjdbajefoiaaGreatDoorTie
import Derived.Test.YtnfgjdbajefoiaaGreatDoorPureWeightPaths
import Derived.Test.YtnfgjdbajefoiaaGreatDoorBv41
import Derived.Test.YtnfgjdbajefoiaaGreatDoorBv52
import Derived.WalkKit
import Derived.ProofKit
import Derived.OpenShut
import Derived.LaidMore
import Derived.Lay
import Derived.SevenTiedAt
import Derived.Deep.DeepHandedRow
import Derived.Test.YtnfgjdbajefoiaaGreatDoorBv31
import Derived.Stop.Joined
namespace Go.Proofs.YtnfgjdbajefoiaaGreatDoor.weightPaths
open Go Go.ChangeShapes Go.WideShapes Go.ChangeAt Go.RowKit Go.Proofs.YtnfgjdbajefoiaaGreatDoorBv
set_option linter.unusedVariables false
set_option linter.unusedSimpArgs false
theorem own:ownKnob Tryz.prog.godebug=none:=by kernel_rfl
theorem laid:laidOutB Tryz.prog=true:=by kernel_rfl
theorem good:plainRs Tryz.prog [3,5,9,22,27,28,30,38,41] [30]=true:=by kernel_rfl
def listed:List (String×DataW Unit):=[("math/bits.deBruijn32tab",Rows.laid_math_bits_deBruijn32tab),("math/bits.deBruijn64tab",Rows.laid_math_bits_deBruijn64tab),("internal/strconv.uint64pow10",Rows.laid_internal_strconv_uint64pow10),("unicode/utf8.acceptRanges",Rows.laid_unicode_utf8_acceptRanges),("strconv.ErrRange",Rows.laid_strconv_ErrRange),("strconv.ErrSyntax",Rows.laid_strconv_ErrSyntax),("unicode/utf8.first",Rows.laid_unicode_utf8_first)]
theorem globs {W:World}(h:laidMetH Tryz.prog listed W) (hs:W.ShapedOpen Tryz.prog):∃ mL:Int,∀ g,GlobOK (entry W) g (GG mL g):=by
 rw [MakeChecks.laidMetH_plain _ _ _ (by kernel_rfl)] at h
 obtain ⟨mL,hm⟩:=glob_int (P:=Tryz.prog) (g:=0) (t:=3) (zero:=#[.int .i64 0]) hs (of_decide_eq_true (by kernel_rfl)) (by kernel_rfl) rfl (by kernel_rfl) (by kernel_rfl) Tryz.underlying3
 refine ⟨mL,?_⟩
 intro g
 by_cases h6:g=6
 ·subst h6
  exact laid_met h (n := "math/bits.deBruijn32tab") (dat:=Rows.laid_math_bits_deBruijn32tab) (g:=6) (t:=156) (l:=g6_c) (.head _) (by kernel_rfl) (by kernel_rfl) (by kernel_rfl) (by kernel_rfl)
 by_cases h7:g=7
 ·subst h7
  exact laid_met h (n := "math/bits.deBruijn64tab") (dat:=Rows.laid_math_bits_deBruijn64tab) (g:=7) (t:=157) (l:=g7_c) (.tail _ (.head _)) (by kernel_rfl) (by kernel_rfl) (by kernel_rfl) (by kernel_rfl)
 by_cases h5:g=5
 ·subst h5
  exact laid_met h (n := "internal/strconv.uint64pow10") (dat:=Rows.laid_internal_strconv_uint64pow10) (g:=5) (t:=151) (l:=g5_c) (.tail _ (.tail _ (.head _))) (by kernel_rfl) (by kernel_rfl) (by kernel_rfl) (by kernel_rfl)
 by_cases h2:g=2
 ·subst h2
  exact laid_met h (n := "unicode/utf8.acceptRanges") (dat:=Rows.laid_unicode_utf8_acceptRanges) (g:=2) (t:=117) (l:=g2_c) (.tail _ (.tail _ (.tail _ (.head _)))) (by kernel_rfl) (by kernel_rfl) (by kernel_rfl) (by kernel_rfl)
 by_cases h4:g=4
 ·subst h4
  exact err_met (P:=Tryz.prog) h (.tail _ (.tail _ (.tail _ (.tail _ (.head _))))) (by kernel_rfl) (by kernel_rfl) Tryz.underlying88
 by_cases h3:g=3
 ·subst h3
  exact err_met (P:=Tryz.prog) h (.tail _ (.tail _ (.tail _ (.tail _ (.tail _ (.head _)))))) (by kernel_rfl) (by kernel_rfl) Tryz.underlying88
 by_cases h1:g=1
 ·subst h1
  exact laid_met h (n := "unicode/utf8.first") (dat:=Rows.laid_unicode_utf8_first) (g:=1) (t:=114) (l:=g1_c) (.tail _ (.tail _ (.tail _ (.tail _ (.tail _ (.tail _ (.head _))))))) (by kernel_rfl) (by kernel_rfl) (by kernel_rfl) (by kernel_rfl)
 by_cases h0:g=0
 ·subst h0
  exact hm
 have e:GG mL g=[]:=by unfold GG; rw [if_neg h0,if_neg h1,if_neg h2,if_neg h3,if_neg h4,if_neg h5,if_neg h6,if_neg h7]
 rw [e]
 exact glob_none g
mutual
theorem bulk_le {H:Type}:(d:DataW H)→bulkD d≤Rows.uptoBulk d
 | .lit l=>by cases l <;> simp [bulkD,Rows.uptoBulk]
 | .nil=>by simp [bulkD,Rows.uptoBulk]
 | .ptr d=>by simp only [bulkD,Rows.uptoBulk]; omega
 | .slice es sp=>by have:=bulks_le es; simp only [bulkD,Rows.uptoBulk]; omega
 | .agg ps=>by have:=bulks_le ps; simp only [bulkD,Rows.uptoBulk]; omega
 | .iface _ d=>by simp only [bulkD,Rows.uptoBulk]; omega
 | .map es=>by simp only [bulkD,Rows.uptoBulk]; omega
 | .held _=>by simp [bulkD,Rows.uptoBulk]
theorem bulks_le {H:Type}:(l:List (DataW H))→bulkDs l≤Rows.uptoBulkAll l
 | []=>Nat.zero_le _
 | d::r=>by have:=bulk_le d; have:=bulks_le r; simp only [bulkDs,Rows.uptoBulkAll]; omega
end
theorem reads (os:Os) {H:Type}(enc:TypeId×Value→H):∃ places,DataW.whole enc Tryz.prog ((World.laidAll Tryz.prog os listed).forCall (fun _ _=>0) ⟨#[],#[.agg #[.slice none 0 0,.slice none 0 0]],[]⟩).memory Tryz.f4.params.toList Rows.weightPathsSpec.vars false (#[.agg #[.slice none 0 0,.slice none 0 0]]:Array Value).toList 8=some ([.agg [.nil,.nil]],[],places) :=
 ⟨[],by kernel_rfl⟩
theorem fits (os:Os):Input.okWideB Tryz.prog ((World.laidAll Tryz.prog os listed).forCall (fun _ _=>0) ⟨#[],#[.agg #[.slice none 0 0,.slice none 0 0]],[]⟩) 4 ⟨#[],#[.agg #[.slice none 0 0,.slice none 0 0]],[]⟩=true:=by kernel_rfl
set_option maxRecDepth 100000 in
theorem lifted (os:Os) (started:os.Started) (H:Type) (enc:TypeId×Value→H) (F:Stop.Interp) :
  ReturnsInHanded {} Tryz.checked os 4 .any ((Rows.OpenSpec.upto Rows.weightPathsSpec).preRow enc Tryz.prog Tryz.f4 Rows.weightPathsUptoRow.domain false Rows.weightPathsUptoRow.laid)
   (((Rows.OpenSpec.upto Rows.weightPathsSpec).at F).post enc Tryz.prog Tryz.f4 false true false false):=by
 obtain ⟨places,hx⟩:=reads os enc
 have hlaid:laidMetH Tryz.prog listed ((World.laidAll Tryz.prog os listed).forCall (fun _ _=>0) ⟨#[],#[.agg #[.slice none 0 0,.slice none 0 0]],[]⟩).memory:=by
  rw [MakeChecks.laidMetH_plain _ _ _ (by kernel_rfl)]; exact laidMet_laidAll _ (by kernel_rfl) (by kernel_rfl)
 refine returnsInHanded_of_row (C:=Tryz.checked) (s:=Rows.OpenSpec.upto Rows.weightPathsSpec) own started (by kernel_rfl) Tryz.func4
  ⟨World.laidAll Tryz.prog os listed,fun _ _=>0,⟨#[],#[.agg #[.slice none 0 0,.slice none 0 0]],[]⟩,World.laidAll_os _ _ _,World.shaped_of_ZipB (by kernel_rfl) (by kernel_rfl),(Input.okWide_of_okWideB (base:=0) (fits os)).1,(Input.okWide_of_okWideB (fits os)).2,
   OpenSpec.preRow_of_cond 8 hx (by kernel_rfl) (fun k hk=>by cases hk; kernel_rfl) (by kernel_rfl) hlaid,by simp [Assume.holds]⟩ ?_
 intro W base args ds gs before hval0 hW hcnd hk hsz0 hL0 hsh _
 have hL:laidMetH Tryz.prog listed W:=hL0
 have hsz1:(DataW.weightsEach Tryz.prog (Tryz.f4.params.toList ++ Rows.weightPathsSpec.plain.varTypes Tryz.prog) (ds ++ gs)).all (·≤reachBytes)=true:=hsz0
 have hval:∀(j:Nat) t v,Tryz.f4.params[j]? = some t→args[j]? = some v→Value.okWide Tryz.prog W .any base t v:=hval0
 have hW' := hW
 obtain ⟨p,q,hA0,hV,rfl,hfz,hnd⟩:=hW
 have hA:DataW.TrodAll enc Tryz.prog W 0 (fun _=>true) true Tryz.f4.params.toList args.toList ds p:=hA0
 rw [Tryz.params4] at hA hval
 have hval1:∀(j:Nat) t v,([30]:List TypeId)[j]? = some t→args[j]? = some v→Value.okWide Tryz.prog W .any base t v:=by
  intro j t v h1 h2
  exact hval j t v (by simpa using h1) h2
 have hA1:=hA
 obtain ⟨v0,vs0,d0,ds0,p0,q0,hargs,rfl,rfl,h0,r0⟩:=trodAll_cons hA
 obtain ⟨rfl,rfl,rfl⟩:=trodAll_nil r0
 obtain ⟨rfl,rfl⟩:=trodVars_none hV
 have ets:Tryz.f4.params.toList ++ Rows.weightPathsSpec.plain.varTypes Tryz.prog=[30]:=by kernel_rfl
 rw [ets,List.append_nil] at hsz1
 have hw:∀ n ∈ DataW.weightsEach Tryz.prog ([30]:List TypeId) _,n≤reachBytes:=fun n hn=>by simpa using List.all_eq_true.1 hsz1 n hn
 obtain ⟨mL,hG⟩:=globs hL hsh
 have hN0:=of_decide_eq_true (p:=Rows.uptoBulkAll _≤1048576) (hk _ rfl)
 rw [List.append_nil] at hN0
 have hN:=Nat.le_trans (bulks_le _) hN0
 refine (law_callsR hG laid good hA1 hw hval1 (fun xs hl hs hb=>lawWeightPaths pureWeightPaths xs hl hs (Nat.le_trans hb hN))).mono fun e W' ⟨he,bel,hT⟩=>?_
 subst he
 exact ⟨_,rfl,_,_,_,[],_,[],hW',trodAll_mk1 (shut_bool Tryz.underlying4 _),hT,rfl,bel.frame _,fun h=>by cases h⟩
theorem over:Rows.WeightPathsUptoSaid :=
 OpenClaim.holds_of_cond 4 Tryz.f4 rfl rfl rfl rfl rfl rfl rfl ⟨rfl,rfl,rfl,rfl,rfl⟩ rfl rfl rfl rfl rfl (by kernel_rfl) Tryz.func4 (by kernel_rfl)
  (of_decide_eq_true (by kernel_rfl)) (by unfold Func.isWrapper; first | (rw [if_pos (by decide +kernel)]; kernel_rfl) | (rw [if_neg (by decide +kernel)]; exact ⟨rfl,rfl⟩))
  (fun os started H enc _ F=>by rw [OpenClaim.pre_eq_preRow]; exact lifted os started H enc F)
theorem card:Rows.WeightPathsUptoCardSaid :=
 Claim7.holds_tied_plain_at .later [] [.data,.data,.data,.data,.sentinel,.sentinel,.pinned] true (true, "528f7c148b3c74ff5889b5b9727e837f2cf58c9eff84660466619e01443c7e48") true over (fun _ h=>by cases h) (by kernel_rfl) (fun _ h=>by cases h) weightPathsUpto_row_tie rfl ⟨rfl,rfl⟩ (by kernel_rfl) rfl
  (fun f fn hf hfn=>by
   obtain rfl:f=4:=Option.some.inj ((show Tryz.prog.funcNamed "clerestory/clerestorylaw2.WeightPaths" = some 4 by kernel_rfl).symm.trans hf) |>.symm
   obtain rfl:fn=Tryz.f4:=(Option.some.inj (Tryz.func4.symm.trans hfn)).symm
   exact ⟨by kernel_rfl,fun j t ht=>by
    rw [Tryz.params4] at ht
    have hm:t ∈ [30]:=by simpa using Array.mem_of_getElem? ht
    have hall:([30].all fun u=>!Tryz.prog.wantsStandIn u)=true:=by kernel_rfl
    exact (show Tryz.prog.wantsStandIn t=false by simpa using List.all_eq_true.1 hall t hm)⟩)
  (by kernel_rfl)
end Go.Proofs.YtnfgjdbajefoiaaGreatDoor.weightPaths
namespace Go.Proofs.YtnfgjdbajefoiaaGreatDoor
theorem weightPaths_holds:Rows.WeightPathsUptoCardSaid:=weightPaths.card
#print axioms weightPaths_holds
end Go.Proofs.YtnfgjdbajefoiaaGreatDoor
-- squeezed
